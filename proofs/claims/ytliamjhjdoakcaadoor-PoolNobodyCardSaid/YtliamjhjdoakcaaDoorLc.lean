/- The examples of layer 4's page. -/
import Derived.Test.YtliamjhjdoakcaaDoorLb
namespace Go.Proofs.YtliamjhjdoakcaaDoor
open Go Go.RowKit Go.Shelf
set_option linter.unusedVariables false
set_option linter.unusedSimpArgs false

theorem Chg.tab {S : Nat → Prop} {w w' : World} (h : Chg S w w') (hT : TabAt 0 Lib.deBruijn64tab w) (h0 : ¬ S 0) : TabAt 0 Lib.deBruijn64tab w' := fun j hj => h.cell (hT j hj) h0
theorem tab_lt {w : World} (hT : TabAt 0 Lib.deBruijn64tab w) : 0 < w.heap.size := World.block_lt_of_cell? w ⟨0, 0, none⟩ (hT 0 (by decide))
theorem tab_below {w w' : World} (hT : TabAt 0 Lib.deBruijn64tab w) (h : Below w.heap.size w w') : TabAt 0 Lib.deBruijn64tab w' := (Chg.of_below h (fun _ => False)).tab hT id

/-- Nothing was written. -/
abbrev Still (w w' : World) : Prop := Chg (fun _ => False) w w'
theorem row_free' {w : World} {p wb : Nat} {l : List Bool} (h : IsRow w p wb l) (hT : TabAt 0 Lib.deBruijn64tab w) (f : Int) :
    Calls Tryd.prog 13 #[.pointer (some ⟨p, 0, none⟩), .int .i64 f] w fun e w' => e = firstE (Bt.first l f.toNat false) ∧ Still w w' :=
  (row_free h hT f).mono fun e w' ⟨he, nq, hw⟩ => ⟨he, by subst hw; exact Chg.drewN nq w⟩
theorem row_next' {w : World} {p wb : Nat} {l : List Bool} (h : IsRow w p wb l) (hT : TabAt 0 Lib.deBruijn64tab w) (f : Int) :
    Calls Tryd.prog 11 #[.pointer (some ⟨p, 0, none⟩), .int .i64 f] w fun e w' => e = firstE (Bt.first l f.toNat true) ∧ Still w w' :=
  (row_next h hT f).mono fun e w' ⟨he, nq, hw⟩ => ⟨he, by subst hw; exact Chg.drewN nq w⟩
theorem IsRow.still {w w' : World} {p wb : Nat} {l : List Bool} (h : IsRow w p wb l) (hc : Still w w') : IsRow w' p wb l := h.chg hc id id
theorem IsBools.still {w w' : World} {g cap : Nat} {l : List Bool} (h : IsBools w g cap l) (hc : Still w w') : IsBools w' g cap l := h.chg hc id

def TrueP (w : World) (e : Ending) (w' : World) : Prop := e = .returned (.bool true) ∧ Below w.heap.size w w'

def l70 : List Bool := List.replicate 70 false
def l70a : List Bool := setL l70 0
def l70b : List Bool := setL l70a 65

set_option maxHeartbeats 1000000 in
theorem awake04 (w : World) (hT : TabAt 0 Lib.deBruijn64tab w) : Calls Tryd.prog 9 #[] w (TrueP w) := by
  have HT := Lib.hid hT
  clear hT
  go_enter Tryd.func9, Tryd.ntmps9
  go_wp2_with fail
  refine (new_ok 70 w (by decide) (by decide)).mono ?_
  rintro e w1 ⟨p, wb, rfl, hr, hp, hwb, hB⟩
  have Hr := Lib.hid hr
  have HB := Lib.hid hB
  clear hr hB
  go_wp2_with fail
  refine (row_set Hr.out 0).mono ?_
  rintro e w2 ⟨rfl, hr2, hc2⟩
  have Hr2 := Lib.hid hr2
  have Hc2 := Lib.hid hc2
  clear hr2 hc2
  rw [show setE (List.replicate 70 false) 0 = 0 by decide]
  go_wp2_with fail
  refine (row_set Hr2.out 65).mono ?_
  rintro e w3 ⟨rfl, hr3, hc3⟩
  have Hr3 := Lib.hid hr3
  have Hc3 := Lib.hid hc3
  clear hr3 hc3
  rw [show setE (setL (List.replicate 70 false) 0) 65 = 0 by decide]
  have hB3 : Below w.heap.size w w3 := (HB.out.trans (Hc2.out.below HB.out.size (fun i hi => by rcases hi with rfl | rfl <;> assumption))).trans (Hc3.out.below (Nat.le_trans HB.out.size Hc2.out.size) (fun i hi => by rcases hi with rfl | rfl <;> assumption))
  have HB3 := Lib.hid hB3
  have hT3 := Lib.hid (tab_below HT.out hB3)
  clear hB3
  go_wp2_with fail
  refine (row_free' Hr3.out hT3.out 0).mono ?_
  rintro e w4 ⟨rfl, hc4⟩
  rw [show firstE (Bt.first (setL (setL (List.replicate 70 false) 0) 65) (0 : Int).toNat false) = firstE (some 1) by rw [show Bt.first (setL (setL (List.replicate 70 false) 0) 65) (0 : Int).toNat false = some 1 by decide]]
  unfold firstE
  have Hc4 := Lib.hid hc4
  clear hc4
  go_wp2_with fail
  refine (row_next' (Hr3.out.still Hc4.out) (Hc4.out.tab hT3.out id) 1).mono ?_
  rintro e w5 ⟨rfl, hc5⟩
  rw [show firstE (Bt.first (setL (setL (List.replicate 70 false) 0) 65) (1 : Int).toNat true) = firstE (some 65) by rw [show Bt.first (setL (setL (List.replicate 70 false) 0) 65) (1 : Int).toNat true = some 65 by decide]]
  unfold firstE
  have Hc5 := Lib.hid hc5
  clear hc5
  go_wp2_with fail
  refine (row_set ((Hr3.out.still Hc4.out).still Hc5.out) 0).mono ?_
  rintro e w6 ⟨rfl, hr6, hc6⟩
  rw [show setE (setL (setL (List.replicate 70 false) 0) 65) 0 = 10 by decide]
  have Hc6 := Lib.hid hc6
  clear hr6 hc6
  go_wp2
  go_ret
  refine ⟨rfl, HB3.out.trans ((((Hc4.out.trans Hc5.out).mono (fun _ h => h.elim)).trans Hc6.out).below HB3.out.size (fun i hi => by rcases hi with rfl | rfl <;> assumption))⟩
end Go.Proofs.YtliamjhjdoakcaaDoor
