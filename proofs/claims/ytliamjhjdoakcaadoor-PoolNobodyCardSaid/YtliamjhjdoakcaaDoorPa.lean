/- pool.Pool: what is read, marked and given back, by its contracts. -/
import Derived.Test.YtliamjhjdoakcaaDoorLc
import Derived.Test.YtliamjhjdoakcaaDoorGr
namespace Go.Proofs.YtliamjhjdoakcaaDoor
open Go Go.RowKit Go.Shelf
set_option linter.unusedVariables false
set_option linter.unusedSimpArgs false

def IsPool (w : World) (q p wb : Nat) (l : List Bool) : Prop := w.heap[q]? = some (.cells #[.pointer (some ⟨p, 0, none⟩)] 73 (0, 0)) ∧ IsRow w p wb l ∧ q ≠ p ∧ q ≠ wb
theorem IsPool.chg {w w' : World} {q p wb : Nat} {l : List Bool} {S : Nat → Prop} (h : IsPool w q p wb l) (hc : Chg S w w') (hq : ¬ S q) (hp : ¬ S p) (hwb : ¬ S wb) : IsPool w' q p wb l :=
  ⟨hc.heap h.1 hq, h.2.1.chg hc hp hwb, h.2.2⟩
theorem IsPool.still {w w' : World} {q p wb : Nat} {l : List Bool} (h : IsPool w q p wb l) (hc : Still w w') : IsPool w' q p wb l := h.chg hc id id id
theorem IsPool.cell {w : World} {q p wb : Nat} {l : List Bool} (h : IsPool w q p wb l) : w.cell? ⟨q, 0, none⟩ = some (.pointer (some ⟨p, 0, none⟩)) := heap_cell h.1 rfl
theorem IsPool.lt {w : World} {q p wb : Nat} {l : List Bool} (h : IsPool w q p wb l) : q < w.heap.size ∧ p < w.heap.size ∧ wb < w.heap.size := ⟨heap_lt h.1, h.2.1.lt⟩
/-- Behind a call that writes the row alone. -/
theorem IsPool.row {w w' : World} {q p wb : Nat} {l l' : List Bool} (h : IsPool w q p wb l) (hr : IsRow w' p wb l') (hc : Chg (fun k => k = p ∨ k = wb) w w') : IsPool w' q p wb l' :=
  ⟨hc.heap h.1 (by have h1 := h.2.2.1; have h2 := h.2.2.2; show ¬ (q = p ∨ q = wb); omega), hr, h.2.2⟩

theorem quiet_same {P : Program} {f : FuncId} {args : Array Value} {w : World} {n : Nat} {v : Value}
    (h : Calls P f args (w.drewN n) fun e w' => e = .returned v ∧ w.drewN n = w') : Calls P f args (w.drewN n) fun e w'' => e = .returned v ∧ ∃ m, w'' = w.drewN m :=
  h.mono fun _ _ ⟨he, hm⟩ => ⟨he, n, hm.symm⟩

theorem none_no (q p : Nat) (w : World) (h0 : w.cell? ⟨q, 0, none⟩ = some (.pointer (some ⟨p, 0, none⟩))) :
    Calls Tryd.prog 46 #[.pointer (some ⟨q, 0, none⟩)] w fun e w' => e = .returned (.bool false) ∧ w = w' := by
  go_enter Tryd.func46, Tryd.ntmps46
  go_wp2
  go_ret
  exact ⟨rfl, rfl⟩

theorem held_pool {w : World} {q p wb : Nat} {l : List Bool} (h : IsPool w q p wb l) : Calls Tryd.prog 28 #[.pointer (some ⟨q, 0, none⟩)] w fun e w' => e = .returned (.int .i64 (l.count true)) ∧ w = w' := by
  have h0 := h.cell
  have hc := h.2.1.count
  clear h
  go_enter Tryd.func28, Tryd.ntmps28
  go_wp2_with (first | (go_at_call 46; refine (none_no _ _ _ h0).mono ?_; rintro e w' ⟨rfl, rfl⟩) | (go_at_call 14; refine (count_row _ _ _ hc).mono ?_; rintro e w' ⟨rfl, rfl⟩))
  go_ret
  exact ⟨rfl, rfl⟩

theorem has_pool {w : World} {q p wb : Nat} {l : List Bool} (h : IsPool w q p wb l) (i : Int) (h1 : 0 ≤ i) (h2 : i ≤ 4294967295) :
    Calls Tryd.prog 40 #[.pointer (some ⟨q, 0, none⟩), .int .u32 i] w fun e w' => e = .returned (.bool (hasB l i)) ∧ w = w' := by
  have h0 := h.cell
  have H := Lib.hid h.2.1
  clear h
  go_enter Tryd.func40, Tryd.ntmps40
  go_wp2_with (first | (go_at_call 46; refine (none_no _ _ _ h0).mono ?_; rintro e w' ⟨rfl, rfl⟩) | (go_at_call 12; refine (row_has H.out _).mono ?_; rintro e w' ⟨rfl, rfl⟩))
  go_ret
  exact ⟨rfl, rfl⟩

theorem mark_pool {w : World} {q p wb : Nat} {l : List Bool} (h : IsPool w q p wb l) (i : Int) (h1 : 0 ≤ i) (h2 : i ≤ 4294967295) :
    Calls Tryd.prog 35 #[.pointer (some ⟨q, 0, none⟩), .int .u32 i] w fun e w' => e = .returned (.int .i64 (setE l i)) ∧ IsPool w' q p wb (setL l i) ∧ Chg (fun k => k = p ∨ k = wb) w w' := by
  have h0 := h.cell
  have H := Lib.hid h
  clear h
  go_enter Tryd.func35, Tryd.ntmps35
  go_wp2_with (first | (go_at_call 46; refine (none_no _ _ _ h0).mono ?_; rintro e w' ⟨rfl, rfl⟩) | (go_at_call 10; refine (row_set H.out.2.1 _).mono ?_; rintro e w' ⟨rfl, hr, hc⟩))
  go_ret
  exact ⟨rfl, H.out.row hr hc, hc⟩

def giveE (l : List Bool) (i : Int) : Int := if i = 0 then 2 else clearE l i
def giveL (l : List Bool) (i : Int) : List Bool := if i = 0 then l else clearL l i
theorem give_pool {w : World} {q p wb : Nat} {l : List Bool} (h : IsPool w q p wb l) (i : Int) (h1 : 0 ≤ i) (h2 : i ≤ 4294967295) :
    Calls Tryd.prog 27 #[.pointer (some ⟨q, 0, none⟩), .int .u32 i] w fun e w' => e = .returned (.int .i64 (giveE l i)) ∧ IsPool w' q p wb (giveL l i) ∧ Chg (fun k => k = p ∨ k = wb) w w' := by
  have h0 := h.cell
  have H := Lib.hid h
  clear h
  unfold giveE giveL
  by_cases hi : i = 0
  · subst hi
    rw [if_pos rfl, if_pos rfl]
    go_enter Tryd.func27, Tryd.ntmps27
    go_wp2_with (first | (go_at_call 46; refine (none_no _ _ _ h0).mono ?_; rintro e w' ⟨rfl, rfl⟩))
    go_ret
    exact ⟨rfl, H.out, Chg.refl _ _⟩
  · rw [if_neg hi, if_neg hi]
    have hb : (i == 0) = false := beq_eq_false_iff_ne.2 hi
    clear hi
    go_enter Tryd.func27, Tryd.ntmps27
    go_wp2_with (first | (go_at_call 46; refine (none_no _ _ _ h0).mono ?_; rintro e w' ⟨rfl, rfl⟩) | (go_at_call 19; refine (row_clear H.out.2.1 _).mono ?_; rintro e w' ⟨rfl, hr, hc⟩))
    go_ret
    exact ⟨rfl, H.out.row hr hc, hc⟩

set_option maxHeartbeats 400000 in
theorem free_pool {w : World} {q p wb : Nat} {l : List Bool} (h : IsPool w q p wb l) : Calls Tryd.prog 29 #[.pointer (some ⟨q, 0, none⟩)] w fun e w' => e = .returned (.int .i64 (l.count false)) ∧ Still w w' := by
  have h0 := h.cell
  have hc := h.2.1.count
  have hs := h.2.1.size
  have hl := h.2.1.len
  have hcl : (l.count true : Nat) ≤ l.length := List.count_le_length
  have hcl2 : (l.count false : Nat) ≤ l.length := List.count_le_length
  have hd : Hid ((l.length : Int) - (l.count true : Nat) = (l.count false : Nat)) := by
    have : l.count true + l.count false = l.length := by
      clear h h0 hc hs hl hcl hcl2
      induction l with
      | nil => rfl
      | cons x r ih => cases x <;> simp <;> omega
    show _ = _
    omega
  clear h
  generalize l.count true = c at *
  generalize l.count false = d at *
  generalize l.length = m at *
  go_enter Tryd.func29, Tryd.ntmps29
  go_wp2_with (first | (go_at_call 46; refine (none_no _ _ _ h0).mono ?_; rintro e w' ⟨rfl, rfl⟩))
  go_quiet ((first | (go_at_call 15; exact quiet_same (len_row _ _ _ hs)) | (go_at_call 14; exact quiet_same (count_row _ _ _ hc))))
  go_wp2
  go_ret
  exact ⟨congrArg (fun x => Ending.returned (.int .i64 x)) hd.out, Chg.drewN _ _⟩

theorem newp_small (n : Int) (w : World) (h : n < 5) : Calls Tryd.prog 24 #[.int .i64 n] w fun e w' => e = .returned (.tuple #[.pointer none, .int .i64 2]) ∧ w = w' := by
  go_enter Tryd.func24, Tryd.ntmps24
  go_wp2
  go_ret2
  exact ⟨rfl, rfl⟩
theorem newp_great (n : Int) (w : World) (h : 65536 < n) : Calls Tryd.prog 24 #[.int .i64 n] w fun e w' => e = .returned (.tuple #[.pointer none, .int .i64 2]) ∧ w = w' := by
  go_enter Tryd.func24, Tryd.ntmps24
  go_wp2_with (first | (go_at_call 8; refine (new_bad n _ (.inr h)).mono ?_; rintro e w' ⟨rfl, rfl⟩))
  go_ret2
  exact ⟨rfl, rfl⟩
theorem newp_bad (n : Int) (w : World) (h : n < 5 ∨ 65536 < n) : Calls Tryd.prog 24 #[.int .i64 n] w fun e w' => e = .returned (.tuple #[.pointer none, .int .i64 2]) ∧ w = w' := by
  rcases h with h | h
  · exact newp_small n w h
  · exact newp_great n w h

def l0 (n : Nat) : List Bool := (List.replicate n false).set 0 true
set_option maxHeartbeats 400000 in
theorem newp_ok (n : Nat) (w : World) (h1 : 5 ≤ n) (h2 : n ≤ 65536) :
    Calls Tryd.prog 24 #[.int .i64 n] w fun e w' => ∃ q p wb, e = .returned (.tuple #[.pointer (some ⟨q, 0, none⟩), .int .i64 0]) ∧ IsPool w' q p wb (l0 n) ∧ w.heap.size ≤ q ∧ w.heap.size ≤ p ∧ w.heap.size ≤ wb ∧ Below w.heap.size w w' := by
  go_enter Tryd.func24, Tryd.ntmps24
  go_wp2_with fail
  refine (new_ok n w (by omega) h2).mono ?_
  rintro e w1 ⟨p, wb, rfl, hr, hp, hwb, hB⟩
  have H := Lib.hid hr
  have HB := Lib.hid hB
  clear hr hB
  go_wp2_with fail
  refine (row_set H.out 0).mono ?_
  rintro e w2 ⟨rfl, hr2, hc2⟩
  have hl : setL (List.replicate n false) 0 = l0 n := by unfold setL l0; rw [if_neg (by simp; omega)]; rfl
  rw [hl] at hr2
  clear hl
  have H2 := Lib.hid hr2
  have HC := Lib.hid hc2
  clear hr2 hc2
  go_wp2
  go_ret2
  have hlt := H2.out.lt
  have hs2 := HC.out.size
  have hs1 := HB.out.size
  refine ⟨_, p, wb, rfl, ⟨heap_alloc_new w2 _, H2.out.chg (Chg.alloc w2 _) (S := fun _ => False) id id, by omega, by omega⟩, by omega, hp, hwb, ?_⟩
  exact (HB.out.trans (HC.out.below hs1 (fun i hi => by rcases hi with rfl | rfl <;> assumption))).alloc (by omega) _
end Go.Proofs.YtliamjhjdoakcaaDoor
