/- The reference of layer 4, by its contracts. -/
import Derived.Test.YtliamjhjdoakcaaDoorLa
namespace Go.Proofs.YtliamjhjdoakcaaDoor
open Go Go.RowKit Go.Shelf
set_option linter.unusedVariables false
set_option linter.unusedSimpArgs false

/-- A list and a number come back; the list is the old one, or a new one. -/
def ListR (w : World) (g cap n : Nat) (l' : List Bool) (x : Int) (e : Ending) (w' : World) : Prop :=
  ∃ g' cap', e = .returned (.tuple #[.slice (some ⟨g', 0, none⟩) n cap', .int .i64 x]) ∧ IsBools w' g' cap' l' ∧ l'.length = n ∧ (g' = g ∨ w.heap.size ≤ g') ∧ Below w.heap.size w w'

theorem set_same (l : List Bool) (k : Nat) (hk : k < l.length) (b : Bool) (h : l.getD k false = b) : l.set k b = l := by
  have h' : l[k] = b := by simpa [List.getD_eq_getElem?_getD, hk] using h
  rw [← h']; simp

set_option maxHeartbeats 400000 in
theorem ref_set {w : World} {g cap : Nat} {l : List Bool} (h : IsBools w g cap l) (hl : l.length ≤ 65536) (i : Int) :
    Calls Tryd.prog 17 #[.slice (some ⟨g, 0, none⟩) l.length cap, .int .i64 i] w (ListR w g cap l.length (setL l i) (setE l i)) := by
  unfold setL setE
  by_cases h1 : i < 0
  · rw [if_pos (.inl h1), if_pos (.inl h1)]
    go_enter Tryd.func17, Tryd.ntmps17
    go_wp2
    go_ret2
    exact ⟨g, cap, rfl, h, rfl, .inl rfl, Below.refl _ _⟩
  by_cases h2 : (l.length : Int) ≤ i
  · rw [if_pos (.inr h2), if_pos (.inr h2)]
    go_enter Tryd.func17, Tryd.ntmps17
    go_wp2
    go_ret2
    exact ⟨g, cap, rfl, h, rfl, .inl rfl, Below.refl _ _⟩
  rw [if_neg (by omega), if_neg (by omega)]
  obtain ⟨k, rfl⟩ := Int.eq_ofNat_of_zero_le (show 0 ≤ i by omega)
  rw [show (k : Int).toNat = k from rfl]
  have hk : k < l.length := by omega
  have hc := h.cell k hk
  cases hv : l.getD k false with
  | true =>
    rw [if_pos rfl, set_same l k hk true hv]
    rw [hv] at hc
    clear hv
    go_enter Tryd.func17, Tryd.ntmps17
    go_wp2
    go_ret2
    exact ⟨g, cap, rfl, h, rfl, .inl rfl, Below.refl _ _⟩
  | false =>
    rw [if_neg (by simp)]
    rw [hv] at hc
    clear hv
    go_enter Tryd.func17, Tryd.ntmps17
    go_wp2_with (go_at_call 44; refine (ref_with h hl k hk true).mono ?_; rintro e w' ⟨g', cap', rfl, hb, hg, hB⟩)
    go_ret2
    exact ⟨g', cap', rfl, hb, by simp, .inr hg, hB⟩

set_option maxHeartbeats 400000 in
theorem ref_clear {w : World} {g cap : Nat} {l : List Bool} (h : IsBools w g cap l) (hl : l.length ≤ 65536) (i : Int) :
    Calls Tryd.prog 18 #[.slice (some ⟨g, 0, none⟩) l.length cap, .int .i64 i] w (ListR w g cap l.length (clearL l i) (clearE l i)) := by
  unfold clearL clearE
  by_cases h1 : i < 0
  · rw [if_pos (.inl h1), if_pos (.inl h1)]
    go_enter Tryd.func18, Tryd.ntmps18
    go_wp2
    go_ret2
    exact ⟨g, cap, rfl, h, rfl, .inl rfl, Below.refl _ _⟩
  by_cases h2 : (l.length : Int) ≤ i
  · rw [if_pos (.inr h2), if_pos (.inr h2)]
    go_enter Tryd.func18, Tryd.ntmps18
    go_wp2
    go_ret2
    exact ⟨g, cap, rfl, h, rfl, .inl rfl, Below.refl _ _⟩
  rw [if_neg (by omega), if_neg (by omega)]
  obtain ⟨k, rfl⟩ := Int.eq_ofNat_of_zero_le (show 0 ≤ i by omega)
  rw [show (k : Int).toNat = k from rfl]
  have hk : k < l.length := by omega
  have hc := h.cell k hk
  cases hv : l.getD k false with
  | false =>
    rw [if_neg (by simp), set_same l k hk false hv]
    rw [hv] at hc
    clear hv
    go_enter Tryd.func18, Tryd.ntmps18
    go_wp2
    go_ret2
    exact ⟨g, cap, rfl, h, rfl, .inl rfl, Below.refl _ _⟩
  | true =>
    rw [if_pos rfl]
    rw [hv] at hc
    clear hv
    go_enter Tryd.func18, Tryd.ntmps18
    go_wp2_with (go_at_call 44; refine (ref_with h hl k hk false).mono ?_; rintro e w' ⟨g', cap', rfl, hb, hg, hB⟩)
    go_ret2
    exact ⟨g', cap', rfl, hb, by simp, .inr hg, hB⟩

set_option maxHeartbeats 400000 in
theorem ref_has {w : World} {g cap : Nat} {l : List Bool} (h : IsBools w g cap l) (hl : l.length ≤ 65536) (i : Int) :
    Calls Tryd.prog 23 #[.slice (some ⟨g, 0, none⟩) l.length cap, .int .i64 i] w fun e w' => e = .returned (.bool (hasB l i)) ∧ w = w' := by
  unfold hasB
  by_cases h1 : i < 0
  · have e : (decide (0 ≤ i) && decide (i < (l.length : Int)) && l.getD i.toNat false) = false := by simp [show ¬ (0 ≤ i) by omega]
    rw [e]
    clear e
    go_enter Tryd.func23, Tryd.ntmps23
    go_wp2
    go_ret
    exact ⟨rfl, rfl⟩
  by_cases h2 : (l.length : Int) ≤ i
  · have e : (decide (0 ≤ i) && decide (i < (l.length : Int)) && l.getD i.toNat false) = false := by simp [show ¬ (i < (l.length : Int)) by omega]
    rw [e]
    clear e
    go_enter Tryd.func23, Tryd.ntmps23
    go_wp2
    go_ret
    exact ⟨rfl, rfl⟩
  obtain ⟨k, rfl⟩ := Int.eq_ofNat_of_zero_le (show 0 ≤ i by omega)
  have hk : k < l.length := by omega
  have e : (decide (0 ≤ (k : Int)) && decide ((k : Int) < (l.length : Int)) && l.getD (k : Int).toNat false) = l.getD k false := by simp [hk]
  rw [e]
  clear e
  have hc := h.cell k hk
  generalize l.getD k false = b at *
  go_enter Tryd.func23, Tryd.ntmps23
  go_wp2
  go_ret
  exact ⟨rfl, rfl⟩

set_option maxHeartbeats 400000 in
theorem ref_count {w : World} {g cap : Nat} {l : List Bool} (h : IsBools w g cap l) (hl : l.length ≤ 65536) :
    Calls Tryd.prog 22 #[.slice (some ⟨g, 0, none⟩) l.length cap] w fun e w' => e = .returned (.int .i64 (l.count true)) ∧ w = w' := by
  have H := Lib.hid h
  clear h
  go_enter Tryd.func22, Tryd.ntmps22
  go_wp2
  go_loop [3, 4] (fun n i => ∃ k : Nat, k ≤ l.length ∧ i = .int .i64 k ∧ n = .int .i64 ((l.take k).count true)) (fun _ i => l.length - (intOf i).toNat)
  case atStart => exact ⟨0, Nat.zero_le _, rfl, rfl⟩
  case round =>
    obtain ⟨k, hk, rfl, rfl⟩ := hrel
    by_cases hlt : k < l.length
    · have hc := H.out.cell k hlt
      have hle : (l.take k).count true ≤ k := Nat.le_trans List.count_le_length (List.length_take_le _ _)
      have hs : (l.take (k + 1)).count true = (l.take k).count true + if l.getD k false then 1 else 0 := by
        rw [List.take_succ_eq_append_getElem hlt, List.count_append]
        simp only [List.getD_eq_getElem?_getD, List.getElem?_eq_getElem hlt, Option.getD_some]
        cases l[k] <;> simp
      have HS := Lib.hid hs
      clear hs
      cases hv : l.getD k false with
      | true =>
        rw [hv] at hc HS
        clear hv
        go_wp2
        go_round
        case rel => exact ⟨k + 1, by omega, by go_num, by rw [HS.out]; go_num⟩
        case measure => simp [intOf]; omega
      | false =>
        rw [hv] at hc HS
        clear hv
        go_wp2
        go_round
        case rel => exact ⟨k + 1, by omega, by go_num, by rw [HS.out]; rfl⟩
        case measure => simp [intOf]; omega
    · go_wp2
      go_ret
      have : k = l.length := by omega
      subst this
      exact ⟨by simp, rfl⟩

set_option maxHeartbeats 800000 in
theorem ref_first {w : World} {g cap : Nat} {l : List Bool} (h : IsBools w g cap l) (hl : l.length ≤ 65536) (f : Int) (b : Bool) :
    Calls Tryd.prog 21 #[.slice (some ⟨g, 0, none⟩) l.length cap, .int .i64 f, .bool b] w fun e w' => e = firstE (Bt.first l f.toNat b) ∧ w = w' := by
  have H := Lib.hid h
  clear h
  go_enter Tryd.func21, Tryd.ntmps21
  go_wp2
  go_loop [8] (fun i => ∃ k : Nat, k ≤ l.length ∧ i = .int .i64 k ∧ Hid (∀ j, f.toNat ≤ j → j < k → l.getD j false ≠ b)) (fun i => l.length - (intOf i).toNat)
  case atStart => exact ⟨0, Nat.zero_le _, rfl, fun j h1 h2 => by omega⟩
  case round =>
    obtain ⟨k, hk, rfl, hprev⟩ := hrel
    by_cases hlt : k < l.length
    · have hc := H.out.cell k hlt
      by_cases hf : f ≤ k
      · by_cases hv : l.getD k false = b
        · have Hfin : Hid (Bt.first l f.toNat b = some k) := Bt.first_some.2 ⟨hlt, by omega, hv, hprev.out⟩
          rw [hv] at hc
          have hbb : (b == b) = true := beq_self_eq_true b
          clear hv
          go_wp2
          go_ret2
          exact ⟨by rw [Hfin.out]; rfl, rfl⟩
        · have Hn : Hid (∀ j, f.toNat ≤ j → j < k + 1 → l.getD j false ≠ b) := fun j h1 h2 => by
            by_cases e : j = k
            · subst e; exact hv
            · exact hprev.out j h1 (by omega)
          have hbb : (l.getD k false == b) = false := beq_eq_false_iff_ne.2 hv
          generalize l.getD k false = c at hc hbb
          clear hv
          go_wp2
          go_round
          case rel => exact ⟨k + 1, by omega, by go_num, Hn⟩
          case measure => simp [intOf]; omega
      · have Hn : Hid (∀ j, f.toNat ≤ j → j < k + 1 → l.getD j false ≠ b) := fun j h1 h2 => by omega
        clear hc
        go_wp2
        go_round
        case rel => exact ⟨k + 1, by omega, by go_num, Hn⟩
        case measure => simp [intOf]; omega
    · have Hfin : Hid (Bt.first l f.toNat b = none) := Bt.first_none.2 (fun j h1 h2 => hprev.out j h1 (by omega))
      go_wp2
      go_ret2
      exact ⟨by rw [Hfin.out]; rfl, rfl⟩
end Go.Proofs.YtliamjhjdoakcaaDoor
