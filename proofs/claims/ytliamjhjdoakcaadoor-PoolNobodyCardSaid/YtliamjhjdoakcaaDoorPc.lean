/- The reference of layer 7, by its contracts. -/
import Derived.Test.YtliamjhjdoakcaaDoorPb
namespace Go.Proofs.YtliamjhjdoakcaaDoor
open Go Go.RowKit Go.Shelf
set_option linter.unusedVariables false
set_option linter.unusedSimpArgs false

set_option maxHeartbeats 800000 in
theorem ref7_with {w : World} {g cap : Nat} {l : List Bool} (h : IsBools w g cap l) (hl : l.length ≤ 65536) (i : Nat) (hi : i < l.length) (b : Bool) :
    Calls Tryd.prog 47 #[.slice (some ⟨g, 0, none⟩) l.length cap, .int .i64 i, .bool b] w (WithP w l i b) := by
  obtain ⟨i0, hi0, hz0, hz1, hz2⟩ := info_parts info4
  have hg := h.lt
  have ho : (w.alloc (.cells #[] 4)).ownsRow w.heap.size 4 1 (.slice (some ⟨w.heap.size, 0, none⟩) 0 0) 0 [] := World.ownsRow_made w #[] 0 (Nat.le_refl _) (by decide) (by simp)
  go_enter Tryd.func47, Tryd.ntmps47
  go_wp2_with (at_builtin; refine wpList_append_own _ rfl _ _ 37 rfl w.heap.size 4 i0 (.bool false) 1 1 Tryd.underlying37 hi0 hz0 hz1 hz2 rfl (by decide) _ _ _ rfl ho ⟨g, 0, none⟩ l.length cap (l.map Value.bool) rfl ?c0 ?c1 ?c2 ?c3 ?c4 ?c5 ?_)
  case c0 => simp
  case c1 =>
    intro j u hu
    have hj : j < l.length := by have := (List.getElem?_eq_some_iff.1 hu).1; simpa using this
    rw [addr_add, World.cell?_alloc_past _ _ _ hg]
    have := h.cell j hj
    simp only [List.getElem?_map, List.getElem?_eq_getElem hj, Option.map_some, Option.some.injEq] at hu
    subst hu
    simpa [List.getD_eq_getElem?_getD, List.getElem?_eq_getElem hj] using this
  case c2 => intro u hu; simp only [List.mem_map] at hu; obtain ⟨x, _, rfl⟩ := hu; rfl
  case c3 => unfold maxLen; omega
  case c4 => omega
  case c5 => simp
  · intro v' w1 ho1 hgr hne
    obtain ⟨g', cap', rfl, hb, ho2'⟩ := own_form ho1 hne
    have ho2 : IsBools w1 g' cap' l := ho2'
    have hc := ho2.cell i hi
    have hf := World.ownsRow.frozenAt ho2' i
    have hB : Below w.heap.size w w1 := ((Below.refl _ _).alloc (Nat.le_refl _) _).grown hgr (by simp) (fun k hk => by simp [Value.ownBlock] at hk; omega)
    have Ho := Lib.hid ho2'
    clear ho1 ho2 ho2' hgr hne
    go_wp2
    go_ret
    refine ⟨g', cap', rfl, ?_, hb, hB.setCell hb _⟩
    have := (World.ownsRow.stored Ho.out i (.bool b)).1
    unfold IsBools
    simpa [List.map_set] using this
theorem ref7_with' {w : World} {g cap n : Nat} {l : List Bool} (h : IsBools w g cap l) (hn : l.length = n) (hl : n ≤ 65536) (i : Nat) (hi : i < n) (b : Bool) :
    Calls Tryd.prog 47 #[.slice (some ⟨g, 0, none⟩) n cap, .int .i64 i, .bool b] w (WithP w l i b) := by subst hn; exact ref7_with h hl i hi b

theorem ref7_new (n : Nat) (w : World) (h0 : 1 ≤ n) (h1 : n ≤ 65536) :
    Calls Tryd.prog 31 #[.int .i64 n] w fun e w' => ∃ g, e = .returned (.slice (some ⟨g, 0, none⟩) n n) ∧ IsBools w' g n (l0 n) ∧ w.heap.size ≤ g ∧ Below w.heap.size w w' := by
  have hmk := run_make_row' (P := Tryd.prog) 37 4 (.bool false) 1 Tryd.underlying37 info4 rfl .i64 .i64 n (by omega) (by omega)
  have ho : IsBools (w.alloc (.cells (madeCells #[.bool false] n) 4)) w.heap.size n (List.replicate n false) := by
    have := World.ownsRow_lit (base := 0) (e := 4) (size := 1) w (madeCells #[Value.bool false] n) n (Nat.zero_le _) (by unfold maxLen; omega) (by simp [size_madeCells])
    rw [map_replicate] at this
    unfold IsBools
    simpa using this
  have hc := ho.cell 0 (by simp; omega)
  have hf := World.ownsRow.frozenAt ho 0
  have Ho := Lib.hid ho
  clear ho
  go_enter Tryd.func31, Tryd.ntmps31
  go_wp2
  go_ret
  refine ⟨_, rfl, ?_, Nat.le_refl _, (Below.refl _ _).alloc (Nat.le_refl _) _⟩
  have := World.ownsRow_lit (base := 0) (e := 4) (size := 1) w ((madeCells #[Value.bool false] n).setIfInBounds 0 (.bool true)) n (Nat.zero_le _) (by unfold maxLen; omega) (by simp [size_madeCells])
  rw [Array.toList_setIfInBounds, map_replicate] at this
  unfold IsBools l0
  simpa [List.map_set] using this

set_option maxHeartbeats 400000 in
theorem ref7_free {w : World} {g cap n : Nat} {l : List Bool} (h : IsBools w g cap l) (hn : l.length = n) (hl : n ≤ 65536) :
    Calls Tryd.prog 39 #[.slice (some ⟨g, 0, none⟩) n cap] w fun e w' => e = .returned (.int .i64 (l.count false)) ∧ w = w' := by
  subst hn
  have H := Lib.hid h
  clear h
  go_enter Tryd.func39, Tryd.ntmps39
  go_wp2
  go_loop [3, 4] (fun n i => ∃ k : Nat, k ≤ l.length ∧ i = .int .i64 k ∧ n = .int .i64 ((l.take k).count false)) (fun _ i => l.length - (intOf i).toNat)
  case atStart => exact ⟨0, Nat.zero_le _, rfl, rfl⟩
  case round =>
    obtain ⟨k, hk, rfl, rfl⟩ := hrel
    by_cases hlt : k < l.length
    · have hc := H.out.cell k hlt
      have hle : (l.take k).count false ≤ k := Nat.le_trans List.count_le_length (List.length_take_le _ _)
      have hs : (l.take (k + 1)).count false = (l.take k).count false + if l.getD k false then 0 else 1 := by
        rw [List.take_succ_eq_append_getElem hlt, List.count_append]
        simp only [List.getD_eq_getElem?_getD, List.getElem?_eq_getElem hlt, Option.getD_some]
        cases l[k] <;> simp
      have HS := Lib.hid hs
      clear hs
      cases hv : l.getD k false with
      | false =>
        rw [hv] at hc HS
        clear hv
        go_wp2
        go_round
        case rel => exact ⟨k + 1, by omega, by go_num, by rw [HS.out]; go_num⟩
        case measure => simp [intOf]; omega
      | true =>
        rw [hv] at hc HS
        clear hv
        go_wp2
        go_round
        case rel => exact ⟨k + 1, by omega, by go_num, by rw [HS.out]; rfl⟩
        case measure => simp [intOf]; omega
    · go_wp2
      go_ret
      have : k = l.length := by omega
      subst this
      exact ⟨by simp, rfl⟩

set_option maxHeartbeats 400000 in
theorem ref7_mark {w : World} {g cap n : Nat} {l : List Bool} (h : IsBools w g cap l) (hn : l.length = n) (hl : n ≤ 65536) (i : Int) (h0 : 0 ≤ i) (h1 : i ≤ 4294967295) :
    Calls Tryd.prog 34 #[.slice (some ⟨g, 0, none⟩) n cap, .int .u32 i] w (ListR w g cap n (setL l i) (setE l i)) := by
  unfold setL setE
  by_cases h2 : (n : Int) ≤ i
  · rw [if_pos (.inr (by omega)), if_pos (.inr (by omega))]
    go_enter Tryd.func34, Tryd.ntmps34
    go_wp2
    go_ret2
    exact ⟨g, cap, rfl, h, hn, .inl rfl, Below.refl _ _⟩
  rw [if_neg (by omega), if_neg (by omega)]
  obtain ⟨k, rfl⟩ := Int.eq_ofNat_of_zero_le h0
  rw [show (k : Int).toNat = k from rfl]
  have hk : k < l.length := by omega
  have hc := h.cell k hk
  have Hn := Lib.hid hn
  have hkn : k < n := by omega
  cases hv : l.getD k false with
  | true =>
    rw [if_pos rfl, set_same l k hk true hv]
    rw [hv] at hc
    clear hv hn
    go_enter Tryd.func34, Tryd.ntmps34
    go_wp2
    go_ret2
    exact ⟨g, cap, rfl, h, Hn.out, .inl rfl, Below.refl _ _⟩
  | false =>
    rw [if_neg (by simp)]
    rw [hv] at hc
    clear hv hn
    go_enter Tryd.func34, Tryd.ntmps34
    go_wp2_with (go_at_call 47; refine (ref7_with' h Hn.out hl k hkn true).mono ?_; rintro e w' ⟨g', cap', rfl, hb, hg, hB⟩)
    go_ret2
    exact ⟨g', cap', by rw [Hn.out]; rfl, hb, by simpa using Hn.out, .inr hg, hB⟩

set_option maxHeartbeats 400000 in
theorem ref7_give {w : World} {g cap n : Nat} {l : List Bool} (h : IsBools w g cap l) (hn : l.length = n) (hl : n ≤ 65536) (hn0 : 1 ≤ n) (i : Int) (h0 : 0 ≤ i) (h1 : i ≤ 4294967295) :
    Calls Tryd.prog 36 #[.slice (some ⟨g, 0, none⟩) n cap, .int .u32 i] w (ListR w g cap n (giveL l i) (giveE l i)) := by
  unfold giveL giveE clearL clearE
  by_cases hi : i = 0
  · subst hi
    rw [if_pos rfl, if_pos rfl]
    have Hn := Lib.hid hn
    clear hn
    go_enter Tryd.func36, Tryd.ntmps36
    go_wp2
    go_ret2
    exact ⟨g, cap, rfl, h, Hn.out, .inl rfl, Below.refl _ _⟩
  rw [if_neg hi, if_neg hi]
  have hb : (i == 0) = false := beq_eq_false_iff_ne.2 hi
  by_cases h2 : (n : Int) ≤ i
  · rw [if_pos (.inr (by omega)), if_pos (.inr (by omega))]
    have Hn := Lib.hid hn
    clear hn hi
    go_enter Tryd.func36, Tryd.ntmps36
    go_wp2
    go_ret2
    exact ⟨g, cap, rfl, h, Hn.out, .inl rfl, Below.refl _ _⟩
  rw [if_neg (by omega), if_neg (by omega)]
  obtain ⟨k, rfl⟩ := Int.eq_ofNat_of_zero_le h0
  rw [show (k : Int).toNat = k from rfl]
  have hk : k < l.length := by omega
  have hc := h.cell k hk
  have Hn := Lib.hid hn
  have hkn : k < n := by omega
  clear hi
  cases hv : l.getD k false with
  | false =>
    rw [if_neg (by simp), set_same l k hk false hv]
    rw [hv] at hc
    clear hv hn
    go_enter Tryd.func36, Tryd.ntmps36
    go_wp2
    go_ret2
    exact ⟨g, cap, rfl, h, Hn.out, .inl rfl, Below.refl _ _⟩
  | true =>
    rw [if_pos rfl]
    rw [hv] at hc
    clear hv hn
    go_enter Tryd.func36, Tryd.ntmps36
    go_wp2_with (go_at_call 47; refine (ref7_with' h Hn.out hl k hkn false).mono ?_; rintro e w' ⟨g', cap', rfl, hb, hg, hB⟩)
    go_ret2
    exact ⟨g', cap', by rw [Hn.out]; rfl, hb, by simpa using Hn.out, .inr hg, hB⟩
end Go.Proofs.YtliamjhjdoakcaaDoor
