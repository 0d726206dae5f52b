/- The reference of layer 7: Row and Same; the example of the page. -/
import Derived.Test.YtliamjhjdoakcaaDoorPd
namespace Go.Proofs.YtliamjhjdoakcaaDoor
open Go Go.RowKit Go.Shelf
set_option linter.unusedVariables false
set_option linter.unusedSimpArgs false

structure RRow (w wr : World) (l : List Bool) (i : Nat) (v : Value) (got : List Nat) : Prop where
  own : Own32 wr w.heap.size v got
  all : Bt.tf l 0 = got ++ Bt.tf l i
  below : Below w.heap.size w wr
def RRowR (w : World) (l : List Bool) (v i : Value) (wr : World) : Prop := ∃ j got v', j ≤ l.length ∧ i = .int .i64 (j : Nat) ∧ v' = v ∧ RRow w wr l j v' got
def RRowP (w : World) (l : List Bool) (e : Ending) (w' : World) : Prop := ∃ v, e = .returned v ∧ Own32 w' w.heap.size v (Bt.tf l 0) ∧ Below w.heap.size w w'

set_option maxHeartbeats 1000000 in
theorem ref7_row {w : World} {g cap n : Nat} {l : List Bool} (h : IsBools w g cap l) (hn : l.length = n) (hl : n ≤ 65536) :
    Calls Tryd.prog 38 #[.slice (some ⟨g, 0, none⟩) n cap] w (RRowP w l) := by
  subst hn
  have H := Lib.hid h
  clear h
  go_enter Tryd.func38, Tryd.ntmps38
  go_wp2
  have HG : Hid (RRow w (w.alloc (.cells #[] 52)) l 0 (.slice (some ⟨w.heap.size, 0, none⟩) 0 0) []) := ⟨World.ownsRow_made w #[] 0 (Nat.le_refl _) (by decide) (by simp), by simp, (Below.refl _ _).alloc (Nat.le_refl _) _⟩
  go_loopw [3, 4] (fun v i wr => RRowR w l v i wr) (fun _ i _ => l.length - (intOf i).toNat)
  case atStart => exact ⟨0, [], _, Nat.zero_le _, rfl, rfl, HG.out⟩
  case round =>
    clear HG
    obtain ⟨j, got, v, hj, rfl, rfl, hg⟩ := hrel
    have HG := Lib.hid hg
    clear hg
    have hg1000 : got.length ≤ 1000000 := by have := Bt.tf_len l 0; rw [HG.out.all, List.length_append] at this; omega
    have hsz := HG.out.below.size
    by_cases hlt : j < l.length
    · have hcell := (H.out.still (Chg.of_below HG.out.below _)).cell j hlt
      have HS := Lib.hid (Bt.tf_step l j hlt)
      cases hv : l.getD j false with
      | true =>
        rw [hv] at hcell HS
        clear hv
        go_wp2_with (at_builtin; refine append32 rfl _ _ j v rfl w.heap.size got rfl rfl HG.out.own hsz hg1000 ?_; intro v1 w4 ho4 hc4)
        have HG2 : Hid (RRow w w4 l (j + 1) v1 (got ++ [j])) := ⟨ho4, by rw [HG.out.all, HS.out]; simp, HG.out.below.trans (hc4.below hsz (fun q hq => HG.out.own.block q hq))⟩
        clear ho4 hc4
        go_wp2
        go_roundw
        case rel => exact ⟨j + 1, _, _, by omega, by go_num, rfl, HG2.out⟩
        case measure => simp [intOf]; omega
      | false =>
        rw [hv] at hcell HS
        clear hv
        have HG2 : Hid (RRow w wr l (j + 1) v got) := ⟨HG.out.own, by rw [HG.out.all, HS.out]; simp, HG.out.below⟩
        go_wp2
        go_roundw
        case rel => exact ⟨j + 1, _, _, by omega, by go_num, rfl, HG2.out⟩
        case measure => simp [intOf]; omega
    · go_wp2
      go_ret
      exact ⟨v, rfl, by have e1 := HG.out.all; rw [Bt.tf_end l j (by omega), List.append_nil] at e1; rw [e1]; exact HG.out.own, HG.out.below⟩

/-- A list of numbers that is read. -/
def Rd32 (w : World) (v : Value) (xs : List Nat) : Prop := ∃ A c, v = .slice A xs.length c ∧ (xs = [] ∨ ∃ g, A = some ⟨g, 0, none⟩ ∧ ∀ j, j < xs.length → w.cell? ⟨g, j, none⟩ = some (.int .u32 (xs.getD j 0 : Nat)))
theorem Own32.rd {w : World} {base : Nat} {v : Value} {xs : List Nat} (h : Own32 w base v xs) : Rd32 w v xs := by
  unfold Own32 at h
  rcases h.2 with ⟨rfl, h0⟩ | ⟨g, cap, cur, rfl, _⟩
  · exact ⟨none, 0, by rw [h0], .inl (List.eq_nil_of_length_eq_zero h0)⟩
  · refine ⟨_, cap, rfl, .inr ⟨g, rfl, fun j hj => ?_⟩⟩
    rw [World.ownsRow.cellAt h j (by omega)]
    simp [List.getD_eq_getElem?_getD, List.getElem?_eq_getElem hj]
theorem Rd32.chg {w w' : World} {v : Value} {xs : List Nat} {S : Nat → Prop} (h : Rd32 w v xs) (hc : Chg S w w') (hS : ∀ k, v.ownBlock = some k → ¬ S k) : Rd32 w' v xs := by
  obtain ⟨A, c, rfl, h⟩ := h
  refine ⟨A, c, rfl, ?_⟩
  rcases h with h | ⟨g, rfl, h⟩
  · exact .inl h
  · exact .inr ⟨g, rfl, fun j hj => hc.cell (h j hj) (hS g rfl)⟩

def SameP (xs ys : List Nat) (w : World) (e : Ending) (w' : World) : Prop := e = .returned (.bool (decide (xs = ys))) ∧ Still w w'
def SameR (w : World) (xs ys : List Nat) (i : Value) (wr : World) : Prop := ∃ k : Nat, k ≤ xs.length ∧ i = .int .i64 k ∧ (∀ j, j < k → xs.getD j 0 = ys.getD j 0) ∧ Still w wr

set_option maxHeartbeats 1000000 in
theorem ref7_same {w : World} {v v' : Value} {xs ys : List Nat} (hx : Rd32 w v xs) (hy : Rd32 w v' ys) (hxl : xs.length ≤ 65536) (hyl : ys.length ≤ 65536) :
    Calls Tryd.prog 33 #[v, v'] w (SameP xs ys w) := by
  obtain ⟨A, c, rfl, hx⟩ := hx
  obtain ⟨A', c', rfl, hy⟩ := hy
  by_cases hl : xs.length = ys.length
  · have HL := Lib.hid hl
    rw [← hl]
    have hcx : ∀ j, j < xs.length → ∃ g g', A = some ⟨g, 0, none⟩ ∧ A' = some ⟨g', 0, none⟩ ∧ w.cell? ⟨g, j, none⟩ = some (.int .u32 (xs.getD j 0 : Nat)) ∧ w.cell? ⟨g', j, none⟩ = some (.int .u32 (ys.getD j 0 : Nat)) := by
      intro j hj
      rcases hx with rfl | ⟨g, rfl, hx⟩
      · simp at hj
      rcases hy with rfl | ⟨g', rfl, hy⟩
      · simp only [List.length_nil] at hl; omega
      exact ⟨g, g', rfl, rfl, hx j hj, hy j (by omega)⟩
    have HX := Lib.hid hcx
    clear hcx hx hy hl
    have hnn : ((xs.length : Int) != (xs.length : Int)) = false := by simp
    go_enter Tryd.func33, Tryd.ntmps33
    go_wp2
    go_loopw [5] (fun i wr => SameR w xs ys i wr) (fun i _ => xs.length - (intOf i).toNat)
    case atStart => exact ⟨0, Nat.zero_le _, rfl, fun j hj => by omega, Chg.refl _ _⟩
    case round =>
      obtain ⟨k, hk, rfl, heq, hst⟩ := hrel
      have HE := Lib.hid (show (∀ j, j < k → xs.getD j 0 = ys.getD j 0) ∧ Still w wr from ⟨heq, hst⟩)
      clear heq hst
      by_cases hlt : k < xs.length
      · obtain ⟨g, g', rfl, rfl, h1, h2⟩ := HX.out k hlt
        have h1' := HE.out.2.cell h1 id
        have h2' := HE.out.2.cell h2 id
        clear h1 h2
        by_cases hv : xs.getD k 0 = ys.getD k 0
        · have HE2 : Hid (∀ j, j < k + 1 → xs.getD j 0 = ys.getD j 0) := fun j hj => by
            by_cases e : j = k
            · subst e; exact hv
            · exact HE.out.1 j (by omega)
          rw [← hv] at h2'
          generalize xs.getD k 0 = x at h1' h2'
          clear hv
          have hxx : ((x : Int) != (x : Int)) = false := by simp
          have hki : (0 : Int) ≤ (k : Int) := by omega
          have hki2 : (k : Int) < (xs.length : Int) := by omega
          go_wp2_with fail
          go_quiet (fail)
          go_wp2
          go_roundw
          case rel => exact ⟨k + 1, by omega, by go_num, HE2.out, HE.out.2.trans (Chg.drewN _ _)⟩
          case measure => simp [intOf]; omega
        · have hne : Hid (decide (xs = ys) = false) := by
            apply decide_eq_false
            intro e
            exact hv (by rw [e])
          have hxx : (((xs.getD k 0 : Nat) : Int) != ((ys.getD k 0 : Nat) : Int)) = true := by simp only [bne_iff_ne, ne_eq]; omega
          generalize xs.getD k 0 = x at h1' hxx
          generalize ys.getD k 0 = y at h2' hxx
          clear hv
          have hki : (0 : Int) ≤ (k : Int) := by omega
          have hki2 : (k : Int) < (xs.length : Int) := by omega
          go_wp2_with fail
          go_quiet (fail)
          go_wp2
          go_ret
          exact ⟨by rw [hne.out]; rfl, HE.out.2.trans (Chg.drewN _ _)⟩
      · have heq : Hid (decide (xs = ys) = true) := by
          apply decide_eq_true
          apply List.ext_getElem? 
          intro j
          by_cases hj : j < xs.length
          · have h1 := HE.out.1 j (by omega)
            have h2 := HL.out
            simp only [List.getD_eq_getElem?_getD, List.getElem?_eq_getElem hj, List.getElem?_eq_getElem (show j < ys.length by omega), Option.getD_some] at h1 ⊢
            rw [h1]
          · have h2 := HL.out
            rw [List.getElem?_eq_none (by omega), List.getElem?_eq_none (by omega)]
        go_wp2
        go_ret
        exact ⟨by rw [heq.out]; rfl, HE.out.2⟩
  · have hne : Hid (decide (xs = ys) = false) := by
      apply decide_eq_false
      intro e
      exact hl (by rw [e])
    have hnn : ((xs.length : Int) != (ys.length : Int)) = true := by simp only [bne_iff_ne, ne_eq]; omega
    clear hx hy hl
    generalize xs.length = n at *
    generalize ys.length = m at *
    go_enter Tryd.func33, Tryd.ntmps33
    go_wp2
    go_ret
    exact ⟨by rw [hne.out]; rfl, Chg.refl _ _⟩
end Go.Proofs.YtliamjhjdoakcaaDoor
