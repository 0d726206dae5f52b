/- bits.Row: New, Set, Clear, Fork, by their contracts. -/
import Derived.Test.YtliamjhjdoakcaaDoorRb
import Derived.Test.YtliamjhjdoakcaaDoorShelf
import Derived.Laws.BitsAllLaws
import Derived.BigRegion
import Derived.Deep.RegionWith
namespace Go.Proofs.YtliamjhjdoakcaaDoor
open Go Go.RowKit Go.Shelf
set_option linter.unusedVariables false
set_option linter.unusedSimpArgs false

theorem wrap_pow (k : Nat) (hk : k < 64) : IntKind.u64.wrap (2 ^ k) = ((2 ^ k : Nat) : Int) := by
  have : 2 ^ k < 2 ^ 64 := Nat.pow_lt_pow_right (by decide) hk
  rw [IntKind.wrap_u64, show (2 : Int) ^ k = ((2 ^ k : Nat) : Int) by simp]
  generalize 2 ^ k = z at *
  omega
theorem pow_lt64 (k : Nat) (hk : k < 64) : 2 ^ k < 18446744073709551616 := Nat.pow_lt_pow_right (n := 64) (by decide) hk

theorem count_set_true (l : List Bool) (i : Nat) (hi : i < l.length) (hf : l.getD i false = false) : (l.set i true).count true = l.count true + 1 := by
  have h : l[i] = false := by simpa [List.getD_eq_getElem?_getD, hi] using hf
  rw [List.count_set hi, h]; simp
theorem count_set_false (l : List Bool) (i : Nat) (hi : i < l.length) (hf : l.getD i false = true) : (l.set i false).count true = l.count true - 1 := by
  have h : l[i] = true := by simpa [List.getD_eq_getElem?_getD, hi] using hf
  rw [List.count_set hi, h]; simp
theorem count_pos (l : List Bool) (i : Nat) (hi : i < l.length) (hf : l.getD i false = true) : 1 ≤ l.count true := by
  have h : l[i] = true := by simpa [List.getD_eq_getElem?_getD, hi] using hf
  exact List.count_pos_iff.2 (h ▸ List.getElem_mem hi)

/-- The row behind a store into a word and one into the count. -/
theorem IsRow.put {w : World} {p wb cap : Nat} {l : List Bool} {ws : List Nat} {i y : Nat} {b : Bool} {c : Int} (hw : Bt.Words l ws) (h1 : 1 ≤ l.length) (h2 : l.length ≤ 65536) (h3 : p ≠ wb)
    (h4 : w.heap[p]? = some (.cells #[.int .i64 l.length, .int .i64 (l.count true), .slice (some ⟨wb, 0, none⟩) ws.length cap] 78 (0, 0)))
    (h5 : w.ownsRow 0 67 1 (.slice (some ⟨wb, 0, none⟩) ws.length cap) ws.length (ws.map fun x : Nat => Value.int .u64 (x : Int))) (hi : i < l.length) (hy : y < Bt.W64)
    (hb : ∀ t, t < 64 → y.testBit t = if t = i % 64 then b else (ws.getD (i / 64) 0).testBit t) (hc : c = ((l.set i b).count true : Nat)) :
    IsRow ((w.setCell ⟨wb, i / 64, none⟩ (.int .u64 y)).setCell ⟨p, 1, none⟩ (.int .i64 c)).drew p wb (l.set i b) ∧
      Chg (fun k => k = p ∨ k = wb) w ((w.setCell ⟨wb, i / 64, none⟩ (.int .u64 y)).setCell ⟨p, 1, none⟩ (.int .i64 c)).drew := by
  subst hc
  constructor
  · show IsRow ((w.setCell ⟨wb, i / 64, none⟩ (.int .u64 y)).setCell ⟨p, 1, none⟩ (.int .i64 ((l.set i b).count true : Nat))) p wb (l.set i b)
    refine ⟨ws.set (i / 64) y, cap, hw.put hi b y hy hb, by simpa using h1, by simpa using h2, h3, ?_, ?_⟩
    · have := heap_set (j := 1) (heap_far h4 ⟨wb, i / 64, none⟩ (.int .u64 y) h3) (.int .i64 ((l.set i b).count true : Nat))
      simpa using this
    · have := (h5.stored (i / 64) (.int .u64 y)).1
      have h6 : (ws.map (fun x : Nat => Value.int .u64 (x : Int))).set (i / 64) (.int .u64 y) = (ws.set (i / 64) y).map fun x : Nat => Value.int .u64 (x : Int) := by rw [List.map_set]
      rw [h6] at this
      have h7 := (Chg.setCell (S := fun k => k = p) (w.setCell ⟨wb, i / 64, none⟩ (.int .u64 y)) ⟨p, 1, none⟩ (.int .i64 ((l.set i b).count true : Nat)) rfl).own this (fun k hk => by simp [Value.ownBlock] at hk; subst hk; exact fun e => h3 e.symm)
      simpa using h7
  · exact ((Chg.setCell w ⟨wb, i / 64, none⟩ (.int .u64 y) (.inr rfl)).trans (Chg.setCell _ ⟨p, 1, none⟩ _ (.inl rfl))).trans (Chg.drew _)

def setE (l : List Bool) (i : Int) : Int := if i < 0 ∨ (l.length : Int) ≤ i then 4 else if l.getD i.toNat false then 10 else 0
def setL (l : List Bool) (i : Int) : List Bool := if i < 0 ∨ (l.length : Int) ≤ i then l else l.set i.toNat true
def clearE (l : List Bool) (i : Int) : Int := if i < 0 ∨ (l.length : Int) ≤ i then 4 else if l.getD i.toNat false then 0 else 9
def clearL (l : List Bool) (i : Int) : List Bool := if i < 0 ∨ (l.length : Int) ≤ i then l else l.set i.toNat false

set_option maxHeartbeats 400000 in
theorem set_in (p wb cap m : Nat) (n c : Int) (x i : Nat) (w : World) (hne : p ≠ wb) (h0 : w.cell? ⟨p, 0, none⟩ = some (.int .i64 n)) (hn : 0 < n) (hi : (i : Int) < n) (hn6 : n ≤ 65536)
    (hc0 : 0 ≤ c) (hc : c ≤ 65536) (h1 : w.cell? ⟨p, 1, none⟩ = some (.int .i64 c)) (f1 : w.frozen? ⟨p, 1, none⟩ = false)
    (hm : i / 64 < m) (hm2 : m ≤ 1024) (h2 : w.cell? ⟨p, 2, none⟩ = some (.slice (some ⟨wb, 0, none⟩) m cap)) (hx : w.cell? ⟨wb, i / 64, none⟩ = some (.int .u64 x)) (fx : w.frozen? ⟨wb, i / 64, none⟩ = false)
    (hx1 : (x : Int) ≤ 18446744073709551615) (hf : x.testBit (i % 64) = false) :
    Calls Tryd.prog 10 #[.pointer (some ⟨p, 0, none⟩), .int .i64 i] w fun e w' => e = .returned (.int .i64 0) ∧ w' = (((w.setCell ⟨wb, i / 64, none⟩ (.int .u64 ((x ||| 2 ^ (i % 64) : Nat) : Int))).setCell ⟨p, 1, none⟩ (.int .i64 (c + 1)))).drew := by
  have Hf := Lib.hid hf
  clear hf
  go_enter Tryd.func10, Tryd.ntmps10
  go_wp2_with (first | (go_at_call 41; refine (there_in _ _ _ _ h0 hn (by omega) hi).mono ?_; rintro e w' ⟨rfl, rfl⟩) | (go_at_call 12; refine (has_in p wb cap m n x i _ h0 hn hi hn6 hm hm2 h2 hx hx1).mono ?_; rintro e w' ⟨rfl, rfl⟩; rw [Hf.out]))
  go_region
  all_goals go_wp2
  go_ret
  have e1 := bits_or_u64_nat x (2 ^ (i % 64)) (by omega) (pow_lt64 _ (Nat.mod_lt _ (by decide)))
  rw [← wrap_pow _ (Nat.mod_lt _ (by decide))] at e1
  exact ⟨rfl, by rw [e1]⟩
set_option maxHeartbeats 400000 in
theorem set_twice (p wb cap m : Nat) (n : Int) (x i : Nat) (w : World) (h0 : w.cell? ⟨p, 0, none⟩ = some (.int .i64 n)) (hn : 0 < n) (hi : (i : Int) < n) (hn6 : n ≤ 65536)
    (hm : i / 64 < m) (hm2 : m ≤ 1024) (h2 : w.cell? ⟨p, 2, none⟩ = some (.slice (some ⟨wb, 0, none⟩) m cap)) (hx : w.cell? ⟨wb, i / 64, none⟩ = some (.int .u64 x))
    (hx1 : (x : Int) ≤ 18446744073709551615) (hf : x.testBit (i % 64) = true) :
    Calls Tryd.prog 10 #[.pointer (some ⟨p, 0, none⟩), .int .i64 i] w fun e w' => e = .returned (.int .i64 10) ∧ w = w' := by
  have Hf := Lib.hid hf
  clear hf
  go_enter Tryd.func10, Tryd.ntmps10
  go_wp2_with (first | (go_at_call 41; refine (there_in _ _ _ _ h0 hn (by omega) hi).mono ?_; rintro e w' ⟨rfl, rfl⟩) | (go_at_call 12; refine (has_in p wb cap m n x i _ h0 hn hi hn6 hm hm2 h2 hx hx1).mono ?_; rintro e w' ⟨rfl, rfl⟩; rw [Hf.out]))
  go_ret
  exact ⟨rfl, rfl⟩
theorem set_out (p : Nat) (n i : Int) (w : World) (h0 : w.cell? ⟨p, 0, none⟩ = some (.int .i64 n)) (hn : 0 < n) (hi : i < 0 ∨ n ≤ i) :
    Calls Tryd.prog 10 #[.pointer (some ⟨p, 0, none⟩), .int .i64 i] w fun e w' => e = .returned (.int .i64 4) ∧ w = w' := by
  go_enter Tryd.func10, Tryd.ntmps10
  go_wp2_with (first | (go_at_call 41; refine (there_out _ _ _ _ h0 hn hi).mono ?_; rintro e w' ⟨rfl, rfl⟩))
  go_ret
  exact ⟨rfl, rfl⟩

/-- Set. -/
theorem row_set {w : World} {p wb : Nat} {l : List Bool} (h : IsRow w p wb l) (i : Int) :
    Calls Tryd.prog 10 #[.pointer (some ⟨p, 0, none⟩), .int .i64 i] w fun e w' => e = .returned (.int .i64 (setE l i)) ∧ IsRow w' p wb (setL l i) ∧ Chg (fun k => k = p ∨ k = wb) w w' := by
  have hr := h
  have hs := h.size
  obtain ⟨ws, cap, hw, h1, h2, h3, h4, h5⟩ := h
  unfold setE setL
  by_cases hi : i < 0 ∨ (l.length : Int) ≤ i
  · rw [if_pos hi, if_pos hi]
    refine (set_out p _ i w hs (by omega) hi).mono ?_
    rintro e w' ⟨rfl, rfl⟩
    exact ⟨rfl, hr, Chg.refl _ _⟩
  · rw [if_neg hi, if_neg hi]
    obtain ⟨k, rfl⟩ := Int.eq_ofNat_of_zero_le (show 0 ≤ i by omega)
    have hk : k < l.length := by omega
    rw [show (k : Int).toNat = k from rfl]
    have hb := hw.bit k
    unfold Bt.bitOf at hb
    have hlen := hw.len
    have hlt := hw.lt (k / 64)
    have hlt' := hlt
    unfold Bt.W64 at hlt'
    have hcl : l.count true ≤ l.length := List.count_le_length
    cases hv : l.getD k false with
    | true =>
      rw [hv] at hb
      rw [if_pos rfl]
      refine (set_twice p wb cap ws.length l.length (ws.getD (k / 64) 0) k w hs (by omega) (by omega) (by omega) (hw.at_lt hk) (by omega) (heap_cell h4 rfl) (own_word h5 (hw.at_lt hk)) (by omega) hb).mono ?_
      rintro e w' ⟨rfl, rfl⟩
      have : l.set k true = l := by
        have h' : l[k] = true := by simpa [List.getD_eq_getElem?_getD, hk] using hv
        rw [← h']; simp
      rw [this]
      exact ⟨rfl, hr, Chg.refl _ _⟩
    | false =>
      rw [hv] at hb
      rw [if_neg (by simp)]
      refine (set_in p wb cap ws.length l.length (l.count true) (ws.getD (k / 64) 0) k w h3 hs (by omega) (by omega) (by omega) (by omega) (by omega) (heap_cell h4 rfl) (heap_free h4) (hw.at_lt hk) (by omega) (heap_cell h4 rfl) (own_word h5 (hw.at_lt hk)) (h5.frozenAt _) (by omega) hb).mono ?_
      rintro e w' ⟨rfl, rfl⟩
      exact ⟨rfl, IsRow.put hw h1 h2 h3 h4 h5 hk (Bt.or_lt hlt (Nat.mod_lt _ (by decide))) (fun t ht => Bt.or_bit _ _ _) (by rw [count_set_true l k hk hv]; omega)⟩

set_option maxHeartbeats 400000 in
theorem clear_in (p wb cap m : Nat) (n c : Int) (x i : Nat) (w : World) (hne : p ≠ wb) (h0 : w.cell? ⟨p, 0, none⟩ = some (.int .i64 n)) (hn : 0 < n) (hi : (i : Int) < n) (hn6 : n ≤ 65536)
    (hc0 : 0 ≤ c) (hc : c ≤ 65536) (h1 : w.cell? ⟨p, 1, none⟩ = some (.int .i64 c)) (f1 : w.frozen? ⟨p, 1, none⟩ = false)
    (hm : i / 64 < m) (hm2 : m ≤ 1024) (h2 : w.cell? ⟨p, 2, none⟩ = some (.slice (some ⟨wb, 0, none⟩) m cap)) (hx : w.cell? ⟨wb, i / 64, none⟩ = some (.int .u64 x)) (fx : w.frozen? ⟨wb, i / 64, none⟩ = false)
    (hx1 : (x : Int) ≤ 18446744073709551615) (hf : x.testBit (i % 64) = true) :
    Calls Tryd.prog 19 #[.pointer (some ⟨p, 0, none⟩), .int .i64 i] w fun e w' => e = .returned (.int .i64 0) ∧ w' = (((w.setCell ⟨wb, i / 64, none⟩ (.int .u64 ((x &&& (18446744073709551615 - 2 ^ (i % 64)) : Nat) : Int))).setCell ⟨p, 1, none⟩ (.int .i64 (c - 1)))).drew := by
  have Hf := Lib.hid hf
  clear hf
  go_enter Tryd.func19, Tryd.ntmps19
  go_wp2_with (first | (go_at_call 41; refine (there_in _ _ _ _ h0 hn (by omega) hi).mono ?_; rintro e w' ⟨rfl, rfl⟩) | (go_at_call 12; refine (has_in p wb cap m n x i _ h0 hn hi hn6 hm hm2 h2 hx hx1).mono ?_; rintro e w' ⟨rfl, rfl⟩; rw [Hf.out]))
  go_region
  all_goals go_wp2
  go_ret
  have e1 := u64_andNot_nat x (2 ^ (i % 64)) (by omega) (pow_lt64 _ (Nat.mod_lt _ (by decide)))
  rw [← wrap_pow _ (Nat.mod_lt _ (by decide))] at e1
  exact ⟨rfl, by rw [e1]⟩
set_option maxHeartbeats 400000 in
theorem clear_none (p wb cap m : Nat) (n : Int) (x i : Nat) (w : World) (h0 : w.cell? ⟨p, 0, none⟩ = some (.int .i64 n)) (hn : 0 < n) (hi : (i : Int) < n) (hn6 : n ≤ 65536)
    (hm : i / 64 < m) (hm2 : m ≤ 1024) (h2 : w.cell? ⟨p, 2, none⟩ = some (.slice (some ⟨wb, 0, none⟩) m cap)) (hx : w.cell? ⟨wb, i / 64, none⟩ = some (.int .u64 x))
    (hx1 : (x : Int) ≤ 18446744073709551615) (hf : x.testBit (i % 64) = false) :
    Calls Tryd.prog 19 #[.pointer (some ⟨p, 0, none⟩), .int .i64 i] w fun e w' => e = .returned (.int .i64 9) ∧ w = w' := by
  have Hf := Lib.hid hf
  clear hf
  go_enter Tryd.func19, Tryd.ntmps19
  go_wp2_with (first | (go_at_call 41; refine (there_in _ _ _ _ h0 hn (by omega) hi).mono ?_; rintro e w' ⟨rfl, rfl⟩) | (go_at_call 12; refine (has_in p wb cap m n x i _ h0 hn hi hn6 hm hm2 h2 hx hx1).mono ?_; rintro e w' ⟨rfl, rfl⟩; rw [Hf.out]))
  go_ret
  exact ⟨rfl, rfl⟩
theorem clear_out (p : Nat) (n i : Int) (w : World) (h0 : w.cell? ⟨p, 0, none⟩ = some (.int .i64 n)) (hn : 0 < n) (hi : i < 0 ∨ n ≤ i) :
    Calls Tryd.prog 19 #[.pointer (some ⟨p, 0, none⟩), .int .i64 i] w fun e w' => e = .returned (.int .i64 4) ∧ w = w' := by
  go_enter Tryd.func19, Tryd.ntmps19
  go_wp2_with (first | (go_at_call 41; refine (there_out _ _ _ _ h0 hn hi).mono ?_; rintro e w' ⟨rfl, rfl⟩))
  go_ret
  exact ⟨rfl, rfl⟩

/-- Clear. -/
theorem row_clear {w : World} {p wb : Nat} {l : List Bool} (h : IsRow w p wb l) (i : Int) :
    Calls Tryd.prog 19 #[.pointer (some ⟨p, 0, none⟩), .int .i64 i] w fun e w' => e = .returned (.int .i64 (clearE l i)) ∧ IsRow w' p wb (clearL l i) ∧ Chg (fun k => k = p ∨ k = wb) w w' := by
  have hr := h
  have hs := h.size
  obtain ⟨ws, cap, hw, h1, h2, h3, h4, h5⟩ := h
  unfold clearE clearL
  by_cases hi : i < 0 ∨ (l.length : Int) ≤ i
  · rw [if_pos hi, if_pos hi]
    refine (clear_out p _ i w hs (by omega) hi).mono ?_
    rintro e w' ⟨rfl, rfl⟩
    exact ⟨rfl, hr, Chg.refl _ _⟩
  · rw [if_neg hi, if_neg hi]
    obtain ⟨k, rfl⟩ := Int.eq_ofNat_of_zero_le (show 0 ≤ i by omega)
    have hk : k < l.length := by omega
    rw [show (k : Int).toNat = k from rfl]
    have hb := hw.bit k
    unfold Bt.bitOf at hb
    have hlen := hw.len
    have hlt := hw.lt (k / 64)
    have hlt' := hlt
    unfold Bt.W64 at hlt'
    have hcl : l.count true ≤ l.length := List.count_le_length
    cases hv : l.getD k false with
    | false =>
      rw [hv] at hb
      rw [if_neg (by simp)]
      refine (clear_none p wb cap ws.length l.length (ws.getD (k / 64) 0) k w hs (by omega) (by omega) (by omega) (hw.at_lt hk) (by omega) (heap_cell h4 rfl) (own_word h5 (hw.at_lt hk)) (by omega) hb).mono ?_
      rintro e w' ⟨rfl, rfl⟩
      have : l.set k false = l := by
        have h' : l[k] = false := by simpa [List.getD_eq_getElem?_getD, hk] using hv
        rw [← h']; simp
      rw [this]
      exact ⟨rfl, hr, Chg.refl _ _⟩
    | true =>
      rw [hv] at hb
      rw [if_pos rfl]
      have hp := count_pos l k hk hv
      refine (clear_in p wb cap ws.length l.length (l.count true) (ws.getD (k / 64) 0) k w h3 hs (by omega) (by omega) (by omega) (by omega) (by omega) (heap_cell h4 rfl) (heap_free h4) (hw.at_lt hk) (by omega) (heap_cell h4 rfl) (own_word h5 (hw.at_lt hk)) (h5.frozenAt _) (by omega) hb).mono ?_
      rintro e w' ⟨rfl, rfl⟩
      exact ⟨rfl, IsRow.put hw h1 h2 h3 h4 h5 hk (Bt.and_lt hlt) (fun t ht => Bt.andnot_bit (Nat.mod_lt _ (by decide)) ht) (by rw [count_set_false l k hk hv]; omega)⟩
end Go.Proofs.YtliamjhjdoakcaaDoor
