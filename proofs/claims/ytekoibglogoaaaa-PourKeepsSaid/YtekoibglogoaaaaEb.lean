/- Rows that grow beside a node. -/
import Derived.Test.YtekoibglogoaaaaEa
namespace Go.Proofs.Ytekoibglogoaaaa
open Go Go.RowKit Go.Shelf
set_option linter.unusedVariables false
set_option linter.unusedSimpArgs false

/-- append onto a row that has a block: the row behind it lies in that block, or in a new one. -/
theorem wpList_append_at {α : Type} {enc : α → List Value} {P : Program} {w : World} {ops : Array Oper} {rest : List Oper} {o : Oper} {a : Act} {Q : Exit → Act → World → Prop} (hgd : o.guard = none) (s x : Operand) (t : TypeId)
    (ho : o.op = .call { callee := .builtin .append, args := #[s, x], argTypes := #[t, t] })
    (base : Nat) (e : TypeId) (i : TypeInfo) (z : Value) (size bytes : Nat) (ht : P.underlying t = some (.slice e)) (hi : P.info? e = some i) (hz : i.zero = some z)
    (hsize : i.size = size) (hby : i.bytes = bytes) (hzs : z.cells.size = size) (hsz : 0 < size) (he : ∀ x, (enc x).length = size)
    (g cap : Nat) (n : Nat) (xs : List Value) (hs : a.eval s = .slice (some ⟨g, 0, none⟩) n cap) (hown : w.ownsRow base e size (.slice (some ⟨g, 0, none⟩) n cap) n xs)
    (ad : Addr) (m c : Nat) (ys : List α) (hx : a.eval x = .slice (some ad) m c) (hy : Sl enc size w (.slice (some ad) m c) ys) (h1 : ∀ u ∈ ys.flatMap enc, u.oneCell' = true)
    (h63 : n + ys.length ≤ maxLen) (hbytes : (n + ys.length) * bytes ≤ 140737488355328) (hbase : base ≤ w.heap.size)
    (h : ∀ g' cap' w', w'.ownsRow base e size (.slice (some ⟨g', 0, none⟩) (n + ys.length) cap') (n + ys.length) (xs ++ ys.flatMap enc) → w.grownBy w' (some g) → (g' = g ∨ g' = w.heap.size) → wpList P ops Q rest (a.put o.dst (.slice (some ⟨g', 0, none⟩) (n + ys.length) cap')) w') : wpList P ops Q (o :: rest) a w := by
  have hm : m = ys.length := by
    obtain ⟨_, _, e, -⟩ := hy
    simp only [Value.slice.injEq] at e
    exact e.2.1
  subst hm
  have hl := flat_len he ys
  have hnews := hy.flat he hsz
  obtain ⟨v', w', hr, hown', hgr, -⟩ := run_append_own w base t o.type e i z size bytes ht hi hz hsize hby hzs hsz _ n xs hown ad ys.length c (ys.flatMap enc) hl hnews h1 h63 hbytes hbase
  obtain ⟨-, hB, hnc, hmax, tl, hrow, hcl, hxl⟩ := own_row hown
  have hv : ∃ g' cap', v' = .slice (some ⟨g', 0, none⟩) (n + ys.length) cap' ∧ (g' = g ∨ g' = w.heap.size) := by
    by_cases hroom : n + ys.length ≤ cap
    · have hr2 := run_append_room (P := P) w t o.type e i ht hi g n cap _ hrow ad ys.length c (ys.flatMap enc) (by rw [hl, hsize]) hnews h1 hroom (by rw [hl, hsize, List.size_toArray, hcl, ← Nat.add_mul]; exact Nat.mul_le_mul_right _ hroom)
      rw [hr2] at hr
      simp only [Result.ok.injEq] at hr
      exact ⟨g, cap, hr.1.symm, .inl rfl⟩
    · have hr2 := run_append_grow (P := P) w t o.type e i z ht hi hz ⟨g, 0, none⟩ n cap xs (by rw [hsize]; exact hxl) (hown.cells (g := g) rfl) ad ys.length c (ys.flatMap enc) (by rw [hl, hsize]) hnews (by omega) (by unfold maxLen at h63; omega) (growslice_fits (by omega) (by rw [hby]; exact hbytes))
      rw [hr2] at hr
      simp only [Result.ok.injEq] at hr
      exact ⟨_, _, hr.1.symm, .inr rfl⟩
  obtain ⟨g', cap', rfl, hg'⟩ := hv
  refine wpList_plain hgd fun K hK => ?_
  unfold Oper.wp
  simp [execOp, ho, resolve, invoke, builtin, hs, hx, hr, Result.andThen]
  exact hK _ _ (h g' cap' w' hown' hgr hg')
/-- A slice that does not lie in block b. -/
def Off (b : Nat) (v : Value) : Prop := ∀ b' off n c, v = .slice (some ⟨b', off, none⟩) n c → 0 < n → b' ≠ b
theorem Sl.off_new {α : Type} {enc : α → List Value} {sz : Nat} {w : World} {v : Value} {xs : List α} (h : Sl enc sz w v xs) : Off w.heap.size v := fun b' off n c e h0 => by
  obtain ⟨A, cap, e1, q1, q2, q3⟩ := h
  rw [e] at e1
  simp only [Value.slice.injEq] at e1
  obtain ⟨rfl, rfl, rfl⟩ := e1
  obtain ⟨b2, off2, e2, hb, -⟩ := q3 h0
  simp only [Option.some.injEq, Addr.mk.injEq] at e2
  omega
theorem SlF.off {α : Type} {B b : Nat} {enc : α → List Value} {sz : Nat} {w : World} {v : Value} {xs : List α} (h : SlF B enc sz w v xs) (hb : b < B) : Off b v := fun b' off n c e h0 => by
  have := h.2 b' off n c e h0
  omega
theorem chg_grown {w w' : World} {b : Nat} (h : w.grownBy w' (some b)) : Chg (fun k => k = b) w w' := ⟨h.os, h.tape, h.output, h.size, fun k hk hn => h.block k hk (fun e => hn (by simpa using e))⟩
theorem SlO.grown {α : Type} {B b : Nat} {enc : α → List Value} {sz : Nat} {w w' : World} {v : Value} {xs : List α} (h : SlO B enc sz w v xs) (ho : Off b v) (hg : w.grownBy w' (some b)) : SlO B enc sz w' v xs :=
  ⟨h.1.chg (chg_grown hg) (fun b' off l c e h0 hS => ho b' off l c e h0 hS), h.2⟩
/-- A node, none of whose lists lies in block b. -/
structure NodeB (wx : World) (g bn : Nat) (n : Nd) (b : Nat) : Prop where
  ex : ∃ A1 c1 A2 c2 A3 c3 A4 c4, NodeAt wx g bn n A1 c1 A2 c2 A3 c3 A4 c4 ∧ Off b (.slice A1 n.kids.length c1) ∧ Off b (.slice A2 n.piv.length c2) ∧ Off b (.slice A3 n.buf.length c3) ∧ Off b (.slice A4 n.prs.length c4)
theorem NodeB.still {wx wy : World} {g bn : Nat} {n : Nd} {b : Nat} (h : NodeB wx g bn n b) (hs : Still wx wy) : NodeB wy g bn n b := by
  obtain ⟨A1, c1, A2, c2, A3, c3, A4, c4, hp, ho⟩ := h.ex
  exact ⟨A1, c1, A2, c2, A3, c3, A4, c4, hp.still hs, ho⟩
theorem NodeB.grown {wx wy : World} {g bn : Nat} {n : Nd} {b b' : Nat} (h : NodeB wx g bn n b) (hg : wx.grownBy wy (some b)) (hbn : bn ≠ b) (hb : b' = b ∨ b' = wx.heap.size) : NodeB wy g bn n b' := by
  obtain ⟨A1, c1, A2, c2, A3, c3, A4, c4, hp, o1, o2, o3, o4⟩ := h.ex
  refine ⟨A1, c1, A2, c2, A3, c3, A4, c4, ⟨(chg_grown hg).heap hp.at_ hbn, hp.s1.grown o1 hg, hp.s2.grown o2 hg, hp.s3.grown o3 hg, hp.s4.grown o4 hg⟩, ?_⟩
  rcases hb with rfl | rfl
  · exact ⟨o1, o2, o3, o4⟩
  · exact ⟨hp.s1.1.off_new, hp.s2.1.off_new, hp.s3.1.off_new, hp.s4.1.off_new⟩
/-- What stands while the document pours: the row that grows lies in block b. -/
structure PR (c : Conf) (p k : Nd) (w wx : World) (g b : Nat) : Prop where
  conf : Cells8 wx g c.blocks c.bytes c.frames c.fan c.buffer c.leaf c.key c.val
  p : NodeB wx g (g + 1) p b
  k : NodeB wx g (g + 1 + 1) k b
  z1 : wx.heap[g + 1 + 1 + 1]? = some ZeroN
  z2 : wx.heap[g + 1 + 1 + 1 + 1]? = some ZeroN
  still : Still w wx
  size : g + 5 ≤ wx.heap.size
  row : g + 5 ≤ b ∧ b < wx.heap.size
theorem PR.move {c : Conf} {p k : Nd} {w wx wy : World} {g b : Nat} (h : PR c p k w wx g b) (hs : Still wx wy) : PR c p k w wy g b :=
  ⟨h.conf.still hs, h.p.still hs, h.k.still hs, hs.heap h.z1 id, hs.heap h.z2 id, h.still.trans hs, Nat.le_trans h.size hs.size, h.row.1, Nat.lt_of_lt_of_le h.row.2 hs.size⟩
theorem PR.grown {c : Conf} {p k : Nd} {w wx wy : World} {g b b' : Nat} (h : PR c p k w wx g b) (hg : wx.grownBy wy (some b)) (hb : b' = b ∨ b' = wx.heap.size) (hb2 : b' < wy.heap.size) (hw : w.heap.size = g) : PR c p k w wy g b' := by
  obtain ⟨h0, h1, h2, h3, h4, h5, h6, h7⟩ := h.conf
  have hc := chg_grown hg
  have hr := h.row.1
  have n0 : ¬ g = b := by omega
  have hsz := h.size
  exact ⟨⟨hc.cell h0 n0, hc.cell h1 n0, hc.cell h2 n0, hc.cell h3 n0, hc.cell h4 n0, hc.cell h5 n0, hc.cell h6 n0, hc.cell h7 n0⟩, h.p.grown hg (by omega) hb, h.k.grown hg (by omega) hb,
    hc.heap h.z1 (show ¬ g + 1 + 1 + 1 = b by omega), hc.heap h.z2 (show ¬ g + 1 + 1 + 1 + 1 = b by omega), h.still.then hc (fun i hi => .inr (by have : i = b := hi; omega)), Nat.le_trans hsz hg.size, by omega, hb2⟩
theorem PR.set {c : Conf} {p k : Nd} {w wx wy : World} {g b bn : Nat} (h : PR c p k w wx g b) (hs : Chg (fun i => i = bn) wx wy) (hb : bn = g + 1 ∨ bn = g + 1 + 1) (hg : w.heap.size = g) : Cells8 wy g c.blocks c.bytes c.frames c.fan c.buffer c.leaf c.key c.val ∧ wy.heap[g + 1 + 1 + 1]? = some ZeroN ∧ wy.heap[g + 1 + 1 + 1 + 1]? = some ZeroN ∧ Still w wy ∧ g + 5 ≤ wy.heap.size ∧ b < wy.heap.size := by
  obtain ⟨h0, h1, h2, h3, h4, h5, h6, h7⟩ := h.conf
  have n0 : ¬ g = bn := by omega
  have n1 : ¬ g + 1 + 1 + 1 = bn := by omega
  have n2 : ¬ g + 1 + 1 + 1 + 1 = bn := by omega
  exact ⟨⟨hs.cell h0 n0, hs.cell h1 n0, hs.cell h2 n0, hs.cell h3 n0, hs.cell h4 n0, hs.cell h5 n0, hs.cell h6 n0, hs.cell h7 n0⟩, hs.heap h.z1 n1, hs.heap h.z2 n2, h.still.then hs (fun i hi => .inr (by subst hi; omega)), Nat.le_trans h.size hs.size, Nat.lt_of_lt_of_le h.row.2 hs.size⟩
theorem NodeB.far {wx wy : World} {g bn gx : Nat} {n : Nd} {b : Nat} (h : NodeB wx g bn n b) (hs : Chg (fun k => k = gx) wx wy) (h1 : bn ≠ gx) (h2 : g ≤ gx ∧ gx < g + 5) : NodeB wy g bn n b := by
  obtain ⟨A1, c1, A2, c2, A3, c3, A4, c4, hp, ho⟩ := h.ex
  exact ⟨A1, c1, A2, c2, A3, c3, A4, c4, hp.far hs h1 h2, ho⟩
theorem PR.setKb {c : Conf} {p k : Nd} {w wx : World} {g b : Nat} (h : PR c p k w wx g b) (hg : w.heap.size = g) {A : Option Addr} {cc : Nat} {r : List Msg} (hr : SlO g encM 3 wx (.slice A r.length cc) r) (hro : Off b (.slice A r.length cc)) : PR c p { k with buf := r } w (wx.setCell ⟨g + 1 + 1, 3, none⟩ (.slice A r.length cc)) g b := by
  have hc : Chg (fun i => i = g + 1 + 1) wx (wx.setCell ⟨g + 1 + 1, 3, none⟩ (.slice A r.length cc)) := Chg.setCell wx _ _ rfl
  obtain ⟨q1, q2, q3, q4, q5, q6⟩ := h.set hc (.inr rfl) hg
  obtain ⟨B1, d1, B2, d2, B3, d3, B4, d4, hk, o1, o2, o3, o4⟩ := h.k.ex
  exact ⟨q1, h.p.far hc (by omega) (by omega), ⟨_, _, _, _, _, _, _, _, hk.setBuf hr (by omega), o1, o2, hro, o4⟩, q2, q3, q4, q5, h.row.1, q6⟩
theorem PR.setKp {c : Conf} {p k : Nd} {w wx : World} {g b : Nat} (h : PR c p k w wx g b) (hg : w.heap.size = g) {A : Option Addr} {cc : Nat} {r : List Pr} (hr : SlO g encP 2 wx (.slice A r.length cc) r) (hro : Off b (.slice A r.length cc)) : PR c p { k with prs := r } w (wx.setCell ⟨g + 1 + 1, 4, none⟩ (.slice A r.length cc)) g b := by
  have hc : Chg (fun i => i = g + 1 + 1) wx (wx.setCell ⟨g + 1 + 1, 4, none⟩ (.slice A r.length cc)) := Chg.setCell wx _ _ rfl
  obtain ⟨q1, q2, q3, q4, q5, q6⟩ := h.set hc (.inr rfl) hg
  obtain ⟨B1, d1, B2, d2, B3, d3, B4, d4, hk, o1, o2, o3, o4⟩ := h.k.ex
  exact ⟨q1, h.p.far hc (by omega) (by omega), ⟨_, _, _, _, _, _, _, _, hk.setPrs hr (by omega), o1, o2, o3, hro⟩, q2, q3, q4, q5, h.row.1, q6⟩
theorem PR.pw {c : Conf} {p k : Nd} {w wx : World} {g b : Nat} (h : PR c p k w wx g b) : PW c p k w wx g := by
  obtain ⟨A1, c1, A2, c2, A3, c3, A4, c4, hp, -⟩ := h.p.ex
  obtain ⟨B1, d1, B2, d2, B3, d3, B4, d4, hk, -⟩ := h.k.ex
  exact ⟨h.conf, ⟨_, _, _, _, _, _, _, _, hp⟩, ⟨_, _, _, _, _, _, _, _, hk⟩, h.z1, h.z2, h.still, h.size⟩
/-- One message more, as the document pours. -/
def refStep (p : Nd) (at_ klev room most : Int) (st : List Msg × Nat × List Msg × List Pr) (m : Msg) : List Msg × Nat × List Msg × List Pr :=
  if (wayN p.piv m.k : Int) ≠ at_ ∨ most ≤ (st.2.1 : Int) ∨ (0 < klev ∧ room ≤ (st.2.1 : Int)) then (st.1 ++ [m], st.2.1, st.2.2.1, st.2.2.2)
  else if klev = 0 then (st.1, st.2.1 + 1, st.2.2.1, app1 st.2.2.2 m) else (st.1, st.2.1 + 1, putM st.2.2.1 m, st.2.2.2)
def refFold (c : Conf) (p : Nd) (at_ : Int) (k : Nd) (most : Int) (ms : List Msg) : List Msg × Nat × List Msg × List Pr := ms.foldl (refStep p at_ k.lev (c.buffer - (k.buf.length : Int)) most) ([], 0, k.buf, k.prs)
def refEarly (p k : Nd) (at_ : Int) : Prop := at_ < 0 ∨ (p.kids.length : Int) ≤ at_ ∨ p.lev ≠ k.lev + 1
instance (p k : Nd) (at_ : Int) : Decidable (refEarly p k at_) := by unfold refEarly; exact inferInstance
def refP (c : Conf) (p : Nd) (at_ : Int) (k : Nd) (most : Int) : Nd := if refEarly p k at_ then p else { p with buf := (refFold c p at_ k most p.buf).1 }
def refK (c : Conf) (p : Nd) (at_ : Int) (k : Nd) (most : Int) : Nd := if refEarly p k at_ then k else { k with buf := (refFold c p at_ k most p.buf).2.2.1, prs := (refFold c p at_ k most p.buf).2.2.2 }
def refN (c : Conf) (p : Nd) (at_ : Int) (k : Nd) (most : Int) : Nat := if refEarly p k at_ then 0 else (refFold c p at_ k most p.buf).2.1
theorem putM_rises {xs : List Msg} {m : Msg} (h : Rises Msg.k xs) : Rises Msg.k (putM xs m) := rises_of_pw (put_pw rfl h.pw)
theorem putM_len (xs : List Msg) (m : Msg) : (putM xs m).length ≤ xs.length + 1 := by
  have := lohi_le (f := Msg.k) xs m.k
  unfold putM
  rw [List.length_append, List.length_cons]; omega
/-- What holds of the lists behind j messages. -/
structure RInv (k : Nd) (j : Nat) (st : List Msg × Nat × List Msg × List Pr) : Prop where
  left : st.1.length ≤ j
  n : st.2.1 ≤ j
  bl : st.2.2.1.length ≤ k.buf.length + j
  pl : st.2.2.2.length ≤ k.prs.length + j
  br : Rises Msg.k st.2.2.1
  pr : Rises Pr.k st.2.2.2
theorem RInv.step {k : Nd} {j : Nat} {st : List Msg × Nat × List Msg × List Pr} (h : RInv k j st) (p : Nd) (at_ klev room most : Int) (m : Msg) : RInv k (j + 1) (refStep p at_ klev room most st m) := by
  obtain ⟨h1, h2, h3, h4, h5, h6⟩ := h
  have q1 := app1_len st.2.2.2 m
  have q2 := putM_len st.2.2.1 m
  unfold refStep
  split
  · exact ⟨by simp only [List.length_append, List.length_singleton]; omega, by simp only; omega, by simp only; omega, by simp only; omega, h5, h6⟩
  · split
    · exact ⟨by simp only; omega, by simp only; omega, by simp only; omega, by simp only; omega, h5, app1_rises h6⟩
    · exact ⟨by simp only; omega, by simp only; omega, by simp only; omega, by simp only; omega, putM_rises h5, h6⟩
end Go.Proofs.Ytekoibglogoaaaa
