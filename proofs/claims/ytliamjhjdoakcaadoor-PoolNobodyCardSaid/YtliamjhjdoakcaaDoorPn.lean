/- PoolNobody: a pool that nobody made. -/
import Derived.Test.YtliamjhjdoakcaaDoorPh
namespace Go.Proofs.YtliamjhjdoakcaaDoor
open Go Go.RowKit Go.Shelf
set_option linter.unusedVariables false
set_option linter.unusedSimpArgs false

theorem size_alloc' (w : World) (o : Obj) : (w.alloc o).heap.size = w.heap.size + 1 := Array.size_push _
theorem none_nil (w : World) : Calls Tryd.prog 46 #[.pointer none] w fun e w' => e = .returned (.bool true) ∧ w = w' := by
  go_enter Tryd.func46, Tryd.ntmps46
  go_wp2
  go_ret
  exact ⟨rfl, rfl⟩
theorem none_empty (b : Nat) (w : World) (h0 : w.cell? ⟨b, 0, none⟩ = some (.pointer none)) : Calls Tryd.prog 46 #[.pointer (some ⟨b, 0, none⟩)] w fun e w' => e = .returned (.bool true) ∧ w = w' := by
  go_enter Tryd.func46, Tryd.ntmps46
  go_wp2
  go_ret
  exact ⟨rfl, rfl⟩
/-- A pool that nobody made: what 'none' says of it. -/
def NoP (v : Value) (w : World) : Prop := Calls Tryd.prog 46 #[v] w fun e w' => e = .returned (.bool true) ∧ w = w'

theorem no_grab {v : Value} {w : World} (h : NoP v w) (k : Int) : Calls Tryd.prog 26 #[v, .int .i64 k] w fun e w' => e = .returned (.tuple #[.slice none 0 0, .int .i64 1]) ∧ w = w' := by
  have H := Lib.hid h
  clear h
  go_enter Tryd.func26, Tryd.ntmps26
  go_wp2_with (go_at_call 46; refine H.out.mono ?_; rintro e w' ⟨rfl, rfl⟩)
  go_ret2
  exact ⟨rfl, rfl⟩
theorem no_take {v : Value} {w : World} (h : NoP v w) : Calls Tryd.prog 25 #[v] w fun e w' => e = .returned (.tuple #[.int .u32 0, .int .i64 1]) ∧ w = w' := by
  have H := Lib.hid h
  clear h
  go_enter Tryd.func25, Tryd.ntmps25
  go_wp2_with (go_at_call 26; refine (no_grab H.out 1).mono ?_; rintro e w' ⟨rfl, rfl⟩)
  go_ret2
  exact ⟨rfl, rfl⟩
theorem no_mark {v : Value} {w : World} (h : NoP v w) (i : Int) : Calls Tryd.prog 35 #[v, .int .u32 i] w fun e w' => e = .returned (.int .i64 1) ∧ w = w' := by
  have H := Lib.hid h
  clear h
  go_enter Tryd.func35, Tryd.ntmps35
  go_wp2_with (go_at_call 46; refine H.out.mono ?_; rintro e w' ⟨rfl, rfl⟩)
  go_ret
  exact ⟨rfl, rfl⟩
theorem no_give {v : Value} {w : World} (h : NoP v w) (i : Int) : Calls Tryd.prog 27 #[v, .int .u32 i] w fun e w' => e = .returned (.int .i64 1) ∧ w = w' := by
  have H := Lib.hid h
  clear h
  go_enter Tryd.func27, Tryd.ntmps27
  go_wp2_with (go_at_call 46; refine H.out.mono ?_; rintro e w' ⟨rfl, rfl⟩)
  go_ret
  exact ⟨rfl, rfl⟩
theorem no_has {v : Value} {w : World} (h : NoP v w) (i : Int) : Calls Tryd.prog 40 #[v, .int .u32 i] w fun e w' => e = .returned (.bool false) ∧ w = w' := by
  have H := Lib.hid h
  clear h
  go_enter Tryd.func40, Tryd.ntmps40
  go_wp2_with (go_at_call 46; refine H.out.mono ?_; rintro e w' ⟨rfl, rfl⟩)
  go_ret
  exact ⟨rfl, rfl⟩
theorem no_free {v : Value} {w : World} (h : NoP v w) : Calls Tryd.prog 29 #[v] w fun e w' => e = .returned (.int .i64 0) ∧ w = w' := by
  have H := Lib.hid h
  clear h
  go_enter Tryd.func29, Tryd.ntmps29
  go_wp2_with (go_at_call 46; refine H.out.mono ?_; rintro e w' ⟨rfl, rfl⟩)
  go_ret
  exact ⟨rfl, rfl⟩
theorem no_held {v : Value} {w : World} (h : NoP v w) : Calls Tryd.prog 28 #[v] w fun e w' => e = .returned (.int .i64 0) ∧ w = w' := by
  have H := Lib.hid h
  clear h
  go_enter Tryd.func28, Tryd.ntmps28
  go_wp2_with (go_at_call 46; refine H.out.mono ?_; rintro e w' ⟨rfl, rfl⟩)
  go_ret
  exact ⟨rfl, rfl⟩
theorem no_row {v : Value} {w : World} (h : NoP v w) : Calls Tryd.prog 37 #[v] w fun e w' => e = .returned (.slice none 0 0) ∧ w = w' := by
  have H := Lib.hid h
  clear h
  go_enter Tryd.func37, Tryd.ntmps37
  go_wp2_with (go_at_call 46; refine H.out.mono ?_; rintro e w' ⟨rfl, rfl⟩)
  go_ret
  exact ⟨rfl, rfl⟩

set_option maxHeartbeats 2000000 in
set_option maxRecDepth 100000 in
theorem nobody_all (w : World) (hT : TabAt 0 Lib.deBruijn64tab w) (i k : Int) : Calls Tryd.prog 7 #[.int .u32 i, .int .i64 k] w (TrueP w) := by
  have HT := Lib.hid hT
  have hpos := tab_lt hT
  clear hT
  go_enter Tryd.func7, Tryd.ntmps7
  go_wp2_with fail
  obtain ⟨w2, hw2⟩ : ∃ w2, (w.alloc (.cells #[.pointer none] 73)).alloc (.cells #[.pointer none, .pointer (some ⟨w.heap.size, 0, none⟩)] 49) = w2 := ⟨_, rfl⟩
  have hs1 := size_alloc' w (.cells #[.pointer none] 73)
  have c0 : w2.cell? ⟨w.heap.size + 1, 0, none⟩ = some (.pointer none) := by rw [← hw2, ← hs1]; exact heap_cell (heap_alloc_new _ _) rfl
  have c1 : w2.cell? ⟨w.heap.size + 1, 1, none⟩ = some (.pointer (some ⟨w.heap.size, 0, none⟩)) := by rw [← hw2, ← hs1]; exact heap_cell (heap_alloc_new _ _) rfl
  have c2 : w2.cell? ⟨w.heap.size, 0, none⟩ = some (.pointer none) := by
    rw [← hw2]
    exact (Chg.alloc (S := fun _ => False) (w.alloc (.cells #[.pointer none] 73)) _).cell (heap_cell (heap_alloc_new w _) rfl) id
  have HC := Lib.hid (show NoP (.pointer none) w2 ∧ NoP (.pointer (some ⟨w.heap.size, 0, none⟩)) w2 from ⟨none_nil w2, none_empty w.heap.size w2 c2⟩)
  have HB : Hid (Below w.heap.size w w2 ∧ w.heap.size ≤ w2.heap.size ∧ TabAt 0 Lib.deBruijn64tab w2) := by
    have hc := (Chg.alloc (S := fun _ => False) w (.cells #[.pointer none] 73)).trans (Chg.alloc (S := fun _ => False) (w.alloc (.cells #[.pointer none] 73)) (.cells #[.pointer none, .pointer (some ⟨w.heap.size, 0, none⟩)] 49))
    rw [hw2] at hc
    have hb := hc.below (Nat.le_refl w.heap.size) (fun _ h => h.elim)
    exact ⟨hb, hc.size, fun j hj => (hb.cell hpos).trans (HT.out j hj)⟩
  clear hs1 c2
  rw [hw2]
  clear hw2
  go_loopw [7] (fun j wr => ∃ m : Nat, m ≤ 2 ∧ j = .int .i64 (m : Nat) ∧ wr = w2) (fun j _ => 2 - (intOf j).toNat)
  case atStart => exact ⟨0, by omega, rfl, rfl⟩
  case round =>
    obtain ⟨m, hm, rfl, rfl⟩ := hrel
    match m, hm with
    | 0, _ =>
      go_wp2_with (first | (go_at_call 25; refine (no_take HC.out.1).mono ?_; rintro e w' ⟨rfl, rfl⟩) | (go_at_call 26; refine (no_grab HC.out.1 k).mono ?_; rintro e w' ⟨rfl, rfl⟩) | (go_at_call 35; refine (no_mark HC.out.1 i).mono ?_; rintro e w' ⟨rfl, rfl⟩) | (go_at_call 27; refine (no_give HC.out.1 i).mono ?_; rintro e w' ⟨rfl, rfl⟩) | (go_at_call 40; refine (no_has HC.out.1 i).mono ?_; rintro e w' ⟨rfl, rfl⟩) | (go_at_call 29; refine (no_free HC.out.1).mono ?_; rintro e w' ⟨rfl, rfl⟩) | (go_at_call 28; refine (no_held HC.out.1).mono ?_; rintro e w' ⟨rfl, rfl⟩) | (go_at_call 37; refine (no_row HC.out.1).mono ?_; rintro e w' ⟨rfl, rfl⟩))
      go_roundw
      case rel => exact ⟨1, by omega, by first | exact ⟨rfl, rfl⟩ | trivial | simp⟩
      case measure => simp [intOf]
    | 1, _ =>
      go_wp2_with (first | (go_at_call 25; refine (no_take HC.out.2).mono ?_; rintro e w' ⟨rfl, rfl⟩) | (go_at_call 26; refine (no_grab HC.out.2 k).mono ?_; rintro e w' ⟨rfl, rfl⟩) | (go_at_call 35; refine (no_mark HC.out.2 i).mono ?_; rintro e w' ⟨rfl, rfl⟩) | (go_at_call 27; refine (no_give HC.out.2 i).mono ?_; rintro e w' ⟨rfl, rfl⟩) | (go_at_call 40; refine (no_has HC.out.2 i).mono ?_; rintro e w' ⟨rfl, rfl⟩) | (go_at_call 29; refine (no_free HC.out.2).mono ?_; rintro e w' ⟨rfl, rfl⟩) | (go_at_call 28; refine (no_held HC.out.2).mono ?_; rintro e w' ⟨rfl, rfl⟩) | (go_at_call 37; refine (no_row HC.out.2).mono ?_; rintro e w' ⟨rfl, rfl⟩))
      go_roundw
      case rel => exact ⟨2, by omega, by first | exact ⟨rfl, rfl⟩ | trivial | simp⟩
      case measure => simp [intOf]
    | 2, _ =>
      go_wp2_with (go_at_call 30; refine (awake07 _ HB.out.2.2).mono ?_; rintro e w9 ⟨rfl, hb9⟩)
      go_ret
      exact ⟨rfl, HB.out.1.trans (hb9.mono HB.out.2.1)⟩
end Go.Proofs.YtliamjhjdoakcaaDoor
