/- The methods of bits.Row that only read, by their contracts. -/
import Derived.Test.YtliamjhjdoakcaaDoorRows
import Derived.Test.YtliamjhjdoakcaaDoorBt
import Derived.Test.YtliamjhjdoakcaaDoorWl
import Derived.Deep.QuietTactic
import Derived.BigQuiet
import Derived.Laws.Bits64b
import Derived.Shelf.Spec.TrailingZeros
namespace Go.Proofs.YtliamjhjdoakcaaDoor
open Go Go.RowKit Go.Shelf
set_option linter.unusedVariables false
set_option linter.unusedSimpArgs false

/-- A row at block p, its words at block wb: the places of l. -/
def IsRow (w : World) (p wb : Nat) (l : List Bool) : Prop :=
  ∃ (ws : List Nat) (cap : Nat), Bt.Words l ws ∧ 1 ≤ l.length ∧ l.length ≤ 65536 ∧ p ≠ wb ∧
    w.heap[p]? = some (.cells #[.int .i64 l.length, .int .i64 (l.count true), .slice (some ⟨wb, 0, none⟩) ws.length cap] 78 (0, 0)) ∧
    w.ownsRow 0 67 1 (.slice (some ⟨wb, 0, none⟩) ws.length cap) ws.length (ws.map fun x : Nat => Value.int .u64 (x : Int))

theorem IsRow.chg {w w' : World} {p wb : Nat} {l : List Bool} {S : Nat → Prop} (h : IsRow w p wb l) (hc : Chg S w w') (hp : ¬ S p) (hwb : ¬ S wb) : IsRow w' p wb l := by
  obtain ⟨ws, cap, h1, h2, h3, h4, h5, h6⟩ := h
  exact ⟨ws, cap, h1, h2, h3, h4, hc.heap h5 hp, hc.own h6 (fun k hk => by simp [Value.ownBlock] at hk; subst hk; exact hwb)⟩
theorem IsRow.lt {w : World} {p wb : Nat} {l : List Bool} (h : IsRow w p wb l) : p < w.heap.size ∧ wb < w.heap.size := by
  obtain ⟨ws, cap, h1, h2, h3, h4, h5, h6⟩ := h
  exact ⟨heap_lt h5, own_lt h6 rfl⟩
theorem IsRow.len {w : World} {p wb : Nat} {l : List Bool} (h : IsRow w p wb l) : 1 ≤ l.length ∧ l.length ≤ 65536 := by
  obtain ⟨ws, cap, h1, h2, h3, h4, h5, h6⟩ := h
  exact ⟨h2, h3⟩
theorem IsRow.count {w : World} {p wb : Nat} {l : List Bool} (h : IsRow w p wb l) : w.cell? ⟨p, 1, none⟩ = some (.int .i64 (l.count true)) := by
  obtain ⟨ws, cap, h1, h2, h3, h4, h5, h6⟩ := h
  exact heap_cell h5 rfl
theorem IsRow.size {w : World} {p wb : Nat} {l : List Bool} (h : IsRow w p wb l) : w.cell? ⟨p, 0, none⟩ = some (.int .i64 l.length) := by
  obtain ⟨ws, cap, h1, h2, h3, h4, h5, h6⟩ := h
  exact heap_cell h5 rfl
/-- The word of a place. -/
theorem own_word {w : World} {g n cap : Nat} {ws : List Nat} (h : w.ownsRow 0 67 1 (.slice (some ⟨g, 0, none⟩) n cap) n (ws.map fun x : Nat => Value.int .u64 (x : Int))) {k : Nat} (hk : k < n) :
    w.cell? ⟨g, k, none⟩ = some (.int .u64 (ws.getD k 0 : Nat)) := by
  have hl : ws.length = n := by have := h.1; simpa using this
  rw [h.cellAt k (by omega)]
  simp [List.getD_eq_getElem?_getD, List.getElem?_eq_getElem (show k < ws.length by omega)]

theorem len_row (p : Nat) (n : Int) (w : World) (h0 : w.cell? ⟨p, 0, none⟩ = some (.int .i64 n)) :
    Calls Tryd.prog 15 #[.pointer (some ⟨p, 0, none⟩)] w fun e w' => e = .returned (.int .i64 n) ∧ w = w' := by
  go_enter Tryd.func15, Tryd.ntmps15
  go_wp2
  go_ret
  exact ⟨rfl, rfl⟩
theorem count_row (p : Nat) (n : Int) (w : World) (h0 : w.cell? ⟨p, 1, none⟩ = some (.int .i64 n)) :
    Calls Tryd.prog 14 #[.pointer (some ⟨p, 0, none⟩)] w fun e w' => e = .returned (.int .i64 n) ∧ w = w' := by
  go_enter Tryd.func14, Tryd.ntmps14
  go_wp2
  go_ret
  exact ⟨rfl, rfl⟩
theorem len_nil (w : World) : Calls Tryd.prog 15 #[.pointer none] w fun e w' => e = .returned (.int .i64 0) ∧ w = w' := by
  go_enter Tryd.func15, Tryd.ntmps15
  go_wp2
  go_ret
  exact ⟨rfl, rfl⟩

theorem there_in (p : Nat) (n i : Int) (w : World) (h0 : w.cell? ⟨p, 0, none⟩ = some (.int .i64 n)) (hn : 0 < n) (hi0 : 0 ≤ i) (hi : i < n) :
    Calls Tryd.prog 41 #[.pointer (some ⟨p, 0, none⟩), .int .i64 i] w fun e w' => e = .returned (.int .i64 0) ∧ w = w' := by
  go_enter Tryd.func41, Tryd.ntmps41
  go_wp2_with (go_at_call 15; refine (len_row _ _ _ h0).mono ?_; rintro e w' ⟨rfl, rfl⟩)
  go_ret
  exact ⟨rfl, rfl⟩
theorem there_below (p : Nat) (n i : Int) (w : World) (h0 : w.cell? ⟨p, 0, none⟩ = some (.int .i64 n)) (hn : 0 < n) (hi : i < 0) :
    Calls Tryd.prog 41 #[.pointer (some ⟨p, 0, none⟩), .int .i64 i] w fun e w' => e = .returned (.int .i64 4) ∧ w = w' := by
  go_enter Tryd.func41, Tryd.ntmps41
  go_wp2_with (go_at_call 15; refine (len_row _ _ _ h0).mono ?_; rintro e w' ⟨rfl, rfl⟩)
  go_ret
  exact ⟨rfl, rfl⟩
theorem there_above (p : Nat) (n i : Int) (w : World) (h0 : w.cell? ⟨p, 0, none⟩ = some (.int .i64 n)) (hn : 0 < n) (hi0 : 0 ≤ i) (hi : n ≤ i) :
    Calls Tryd.prog 41 #[.pointer (some ⟨p, 0, none⟩), .int .i64 i] w fun e w' => e = .returned (.int .i64 4) ∧ w = w' := by
  go_enter Tryd.func41, Tryd.ntmps41
  go_wp2_with (go_at_call 15; refine (len_row _ _ _ h0).mono ?_; rintro e w' ⟨rfl, rfl⟩)
  go_ret
  exact ⟨rfl, rfl⟩
theorem there_out (p : Nat) (n i : Int) (w : World) (h0 : w.cell? ⟨p, 0, none⟩ = some (.int .i64 n)) (hn : 0 < n) (hi : i < 0 ∨ n ≤ i) :
    Calls Tryd.prog 41 #[.pointer (some ⟨p, 0, none⟩), .int .i64 i] w fun e w' => e = .returned (.int .i64 4) ∧ w = w' := by
  by_cases h : i < 0
  · exact there_below p n i w h0 hn h
  · exact there_above p n i w h0 hn (by omega) (by omega)

def hasB (l : List Bool) (i : Int) : Bool := decide (0 ≤ i) && decide (i < l.length) && l.getD i.toNat false

theorem bit_test (x i : Nat) (hx : x < 18446744073709551616) : (bits BinOp.and IntKind.u64 ((x : Int) / 2 ^ i) 1 == 1) = x.testBit i := by
  have e : (x : Int) / 2 ^ i = ((x / 2 ^ i : Nat) : Int) := by simp
  have hlt : x / 2 ^ i < 18446744073709551616 := Nat.lt_of_le_of_lt (Nat.div_le_self _ _) hx
  rw [e, show (1 : Int) = ((1 : Nat) : Int) from rfl, bits_and_u64_nat _ 1 hlt (by decide)]
  rw [Nat.testBit_eq_decide_div_mod_eq, Nat.and_one_is_mod, Bool.eq_iff_iff]
  simp only [beq_iff_eq, decide_eq_true_eq]
  omega

set_option maxHeartbeats 400000 in
theorem has_in (p wb cap m : Nat) (n : Int) (x i : Nat) (w : World) (h0 : w.cell? ⟨p, 0, none⟩ = some (.int .i64 n)) (hn : 0 < n) (hi : (i : Int) < n) (hn6 : n ≤ 65536)
    (hm : i / 64 < m) (hm2 : m ≤ 1024) (h2 : w.cell? ⟨p, 2, none⟩ = some (.slice (some ⟨wb, 0, none⟩) m cap)) (hx : w.cell? ⟨wb, i / 64, none⟩ = some (.int .u64 x)) (hx1 : (x : Int) ≤ 18446744073709551615) :
    Calls Tryd.prog 12 #[.pointer (some ⟨p, 0, none⟩), .int .i64 i] w fun e w' => e = .returned (.bool (x.testBit (i % 64))) ∧ w = w' := by
  go_enter Tryd.func12, Tryd.ntmps12
  go_wp2_with (go_at_call 41; refine (there_in _ _ _ _ h0 hn (by omega) hi).mono ?_; rintro e w' ⟨rfl, rfl⟩)
  go_ret
  exact ⟨congrArg (fun b => Ending.returned (.bool b)) (bit_test x (i % 64) (by omega)), rfl⟩
set_option maxHeartbeats 400000 in
theorem has_out (p : Nat) (n i : Int) (w : World) (h0 : w.cell? ⟨p, 0, none⟩ = some (.int .i64 n)) (hn : 0 < n) (hi : i < 0 ∨ n ≤ i) :
    Calls Tryd.prog 12 #[.pointer (some ⟨p, 0, none⟩), .int .i64 i] w fun e w' => e = .returned (.bool false) ∧ w = w' := by
  go_enter Tryd.func12, Tryd.ntmps12
  go_wp2_with (go_at_call 41; refine (there_out _ _ _ _ h0 hn hi).mono ?_; rintro e w' ⟨rfl, rfl⟩)
  go_ret
  exact ⟨rfl, rfl⟩

/-- Has. -/
theorem row_has {w : World} {p wb : Nat} {l : List Bool} (h : IsRow w p wb l) (i : Int) :
    Calls Tryd.prog 12 #[.pointer (some ⟨p, 0, none⟩), .int .i64 i] w fun e w' => e = .returned (.bool (hasB l i)) ∧ w = w' := by
  have hs := h.size
  obtain ⟨ws, cap, hw, h1, h2, h3, h4, h5⟩ := h
  unfold hasB
  by_cases hi : i < 0 ∨ (l.length : Int) ≤ i
  · have e : (decide (0 ≤ i) && decide (i < (l.length : Int)) && l.getD i.toNat false) = false := by
      rcases hi with hi | hi
      · simp [show ¬ (0 ≤ i) by omega]
      · simp [show ¬ (i < (l.length : Int)) by omega]
    rw [e]
    exact has_out p _ i w hs (by omega) hi
  · obtain ⟨k, rfl⟩ := Int.eq_ofNat_of_zero_le (show 0 ≤ i by omega)
    have hk : k < l.length := by omega
    have e : (decide (0 ≤ (k : Int)) && decide ((k : Int) < (l.length : Int)) && l.getD (k : Int).toNat false) = (ws.getD (k / 64) 0).testBit (k % 64) := by
      have := hw.bit k
      unfold Bt.bitOf at this
      rw [this]
      simp [hk]
    rw [e]
    have hlen := hw.len
    have hlt := hw.lt (k / 64)
    unfold Bt.W64 at hlt
    exact has_in p wb cap ws.length l.length (ws.getD (k / 64) 0) k w hs (by omega) (by omega) (by omega) (hw.at_lt hk) (by omega) (heap_cell h4 rfl) (own_word h5 (hw.at_lt hk)) (by omega)
end Go.Proofs.YtliamjhjdoakcaaDoor
