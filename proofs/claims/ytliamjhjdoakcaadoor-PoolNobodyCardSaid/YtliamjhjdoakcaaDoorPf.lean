/- The example of layer 7's page. -/
import Derived.Test.YtliamjhjdoakcaaDoorPe
namespace Go.Proofs.YtliamjhjdoakcaaDoor
open Go Go.RowKit Go.Shelf
set_option linter.unusedVariables false
set_option linter.unusedSimpArgs false

/-- A pool whose blocks lie above B. -/
structure PoolUp (B : Nat) (w0 w : World) (q p wb : Nat) (l : List Bool) : Prop where
  pool : IsPool w q p wb l
  bq : B ≤ q
  bp : B ≤ p
  bw : B ≤ wb
  hB : B ≤ w.heap.size
  below : Below B w0 w
theorem PoolUp.tab {B : Nat} {w0 w : World} {q p wb : Nat} {l : List Bool} (h : PoolUp B w0 w q p wb l) (hT : TabAt 0 Lib.deBruijn64tab w0) (hB : 0 < B) : TabAt 0 Lib.deBruijn64tab w := fun j hj => (h.below.cell hB).trans (hT j hj)
theorem PoolUp.ne {B : Nat} {w0 w : World} {q p wb : Nat} {l : List Bool} (h : PoolUp B w0 w q p wb l) (hB : 0 < B) : 0 ≠ p ∧ 0 ≠ wb := by have h1 := h.bp; have h2 := h.bw; omega
theorem PoolUp.step {B : Nat} {w0 w w1 : World} {q p wb : Nat} {l l' : List Bool} (h : PoolUp B w0 w q p wb l) (hp : IsPool w1 q p wb l') (hc : Chg (fun i => i = p ∨ i = wb) w w1) : PoolUp B w0 w1 q p wb l' :=
  ⟨hp, h.bq, h.bp, h.bw, Nat.le_trans h.hB hc.size, h.below.trans (hc.below h.hB (fun i hi => by rcases hi with rfl | rfl; exact h.bp; exact h.bw))⟩
theorem PoolUp.still {B : Nat} {w0 w w1 : World} {q p wb : Nat} {l : List Bool} (h : PoolUp B w0 w q p wb l) (hc : Still w w1) : PoolUp B w0 w1 q p wb l :=
  ⟨h.pool.still hc, h.bq, h.bp, h.bw, Nat.le_trans h.hB hc.size, h.below.trans (hc.below h.hB (fun _ h => h.elim))⟩

def m1 : List Bool := (l0 5).set 1 true
def m2 : List Bool := m1.set 2 true
def m3 : List Bool := giveL m2 1
def m4 : List Bool := grabL m3 2

set_option maxHeartbeats 2000000 in
theorem awake07 (w : World) (hT : TabAt 0 Lib.deBruijn64tab w) : Calls Tryd.prog 30 #[] w (TrueP w) := by
  have HT := Lib.hid hT
  have hpos := tab_lt hT
  clear hT
  go_enter Tryd.func30, Tryd.ntmps30
  go_wp2_with fail
  refine (newp_ok 5 w (by decide) (by decide)).mono ?_
  rintro e w1 ⟨q, p, wb, rfl, hr, hq, hp, hwb, hB⟩
  have HP := Lib.hid (show PoolUp w.heap.size w w1 q p wb (l0 5) from ⟨hr, hq, hp, hwb, hB.size, hB⟩)
  clear hr hq hp hwb hB
  go_wp2_with fail
  refine (take_ok HP.out.pool (HP.out.tab HT.out hpos) (HP.out.ne hpos) 1 (by decide)).mono ?_
  rintro e w2 ⟨rfl, hr2, hc2⟩
  have HP2 := Lib.hid (show PoolUp w.heap.size w w2 q p wb m1 from HP.out.step hr2 hc2)
  clear hr2 hc2 HP
  go_wp2_with fail
  refine (take_ok HP2.out.pool (HP2.out.tab HT.out hpos) (HP2.out.ne hpos) 2 (by decide)).mono ?_
  rintro e w3 ⟨rfl, hr3, hc3⟩
  have HP3 := Lib.hid (show PoolUp w.heap.size w w3 q p wb m2 from HP2.out.step hr3 hc3)
  clear hr3 hc3 HP2
  go_wp2_with fail
  refine (give_pool HP3.out.pool 1 (by decide) (by decide)).mono ?_
  rintro e w4 ⟨rfl, hr4, hc4⟩
  rw [show giveE m2 1 = 0 by decide]
  have HP4 := Lib.hid (show PoolUp w.heap.size w w4 q p wb m3 from HP3.out.step hr4 hc4)
  clear hr4 hc4 HP3
  go_wp2_with fail
  refine (grab_pool HP4.out.pool (HP4.out.tab HT.out hpos) (HP4.out.ne hpos) 2).mono ?_
  rintro e w5 ⟨v, rfl, ho5, hr5, hc5⟩
  rw [show grabE m3 2 = 0 by decide]
  rw [show grabG m3 2 = [1, 3] by decide] at ho5
  have hltp := HP4.out.pool.lt
  have HP5 := Lib.hid (show PoolUp w.heap.size w w5 q p wb m4 from HP4.out.step hr5 hc5)
  have HO5 := Lib.hid (show Rd32 w5 v [1, 3] ∧ ∀ k, v.ownBlock = some k → w4.heap.size ≤ k from ⟨ho5.rd, ho5.block⟩)
  clear hr5 hc5 ho5 HP4
  go_wp2_with fail
  refine (grab_pool HP5.out.pool (HP5.out.tab HT.out hpos) (HP5.out.ne hpos) 2).mono ?_
  rintro e w6 ⟨v6, rfl, ho6, hr6, hc6⟩
  rw [show grabE m4 2 = 11 by decide]
  rw [show grabL m4 2 = m4 by decide] at hr6
  have HP6 := Lib.hid (show PoolUp w.heap.size w w6 q p wb m4 from HP5.out.step hr6 hc6)
  have HO6 := Lib.hid (show Rd32 w6 v [1, 3] from HO5.out.1.chg hc6 (fun k hk => by have := HO5.out.2 k hk; show ¬ (k = p ∨ k = wb); omega))
  clear hr6 hc6 ho6 HP5 HO5
  go_wp2_with fail
  refine (ref7_same (xs := [1, 3]) (ys := [1, 3]) (HO6.out.chg (Chg.alloc w6 _) (S := fun _ => False) (fun _ _ => id)) ?_ (by decide) (by decide)).mono ?_
  · exact ⟨_, 2, rfl, .inr ⟨w6.heap.size, rfl, fun j hj => by
      match j, hj with
      | 0, _ => exact heap_cell (heap_alloc_new w6 _) rfl
      | 1, _ => exact heap_cell (heap_alloc_new w6 _) rfl⟩⟩
  rintro e w7 ⟨rfl, hs7⟩
  have HP7 := Lib.hid (show PoolUp w.heap.size w w7 q p wb m4 from HP6.out.still ((Chg.alloc w6 _).trans hs7))
  rw [show decide (([1, 3] : List Nat) = [1, 3]) = true by decide]
  clear hs7 HP6
  go_wp2_with fail
  refine (free_pool HP7.out.pool).mono ?_
  rintro e w8 ⟨rfl, hs8⟩
  rw [show List.count false m4 = 1 by decide]
  have HP8 := Lib.hid (show PoolUp w.heap.size w w8 q p wb m4 from HP7.out.still hs8)
  clear hs8 HP7
  go_wp2
  go_ret
  exact ⟨rfl, HP8.out.below⟩
end Go.Proofs.YtliamjhjdoakcaaDoor
