/- Pouring: the document's answer, by its contract. -/
import Derived.Test.YtekoibglogoaaaaEb
import Derived.Deep.CutBlock
namespace Go.Proofs.Ytekoibglogoaaaa
open Go Go.RowKit Go.Shelf
set_option linter.unusedVariables false
set_option linter.unusedSimpArgs false

theorem PW.pr {c : Conf} {p k : Nd} {w wx : World} {g : Nat} (h : PW c p k w wx g) (o : Obj) : PR c p k w (wx.alloc o) g wx.heap.size := by
  have h2 := h.move (Chg.alloc wx o)
  obtain ⟨A1, c1, A2, c2, A3, c3, A4, c4, hp⟩ := h.p
  obtain ⟨B1, d1, B2, d2, B3, d3, B4, d4, hk⟩ := h.k
  have hs := Chg.alloc (S := fun _ => False) wx o
  exact ⟨h2.conf, ⟨_, _, _, _, _, _, _, _, hp.still hs, hp.s1.1.off_new, hp.s2.1.off_new, hp.s3.1.off_new, hp.s4.1.off_new⟩, ⟨_, _, _, _, _, _, _, _, hk.still hs, hk.s1.1.off_new, hk.s2.1.off_new, hk.s3.1.off_new, hk.s4.1.off_new⟩,
    h2.z1, h2.z2, h2.still, h2.size, h.size, by rw [size_al]; omega⟩
/-- What is asked of the two nodes, there. -/
structure RefH (c : Conf) (p k : Nd) (at_ most : Int) : Prop where
  lp : 0 ≤ p.lev ∧ p.lev ≤ 40
  lk : 0 ≤ k.lev ∧ k.lev ≤ 40
  rk : Rises Pr.k k.prs
  np : p.kids.length ≤ 200000
  bp : p.buf.length ≤ 200000
  bk : k.prs.length ≤ 200000
  bb : k.buf.length ≤ 200000
  cb : 0 ≤ c.buffer ∧ c.buffer ≤ 1000000
  ma : -9223372036854775808 ≤ at_ ∧ at_ ≤ 9223372036854775807
  mm : -9223372036854775808 ≤ most ∧ most ≤ 9223372036854775807

set_option maxRecDepth 100000 in
set_option maxHeartbeats 8000000 in
theorem pour8 {c : Conf} {p k : Nd} {at_ most : Int} (H : RefH c p k at_ most) (hb : Rises Msg.k k.buf) {w : World} {vp vk : Value} (hp : NodeV w vp p) (hk : NodeV w vk k) :
    Calls Try.prog 8 #[.agg c.vs, vp, .int .i64 at_, vk, .int .i64 most] w (PourP (refP c p at_ k most) (refK c p at_ k most) (refN c p at_ k most) w) := by
  have HVP := Lib.hid hp
  have HVK := Lib.hid hk
  obtain ⟨p1, p2, p3, p4, rfl, hp1, hp2, hp3, hp4⟩ := hp
  obtain ⟨k1, k2, k3, k4, rfl, hk1, hk2, hk3, hk4⟩ := hk
  obtain ⟨P1, e1, rfl, -, -⟩ := hp1.form
  obtain ⟨P2, e2, rfl, -, -⟩ := hp2.form
  obtain ⟨P3, e3, rfl, -, -⟩ := hp3.form
  obtain ⟨P4, e4, rfl, -, -⟩ := hp4.form
  obtain ⟨Q1, f1, rfl, -, -⟩ := hk1.form
  obtain ⟨Q2, f2, rfl, -, -⟩ := hk2.form
  obtain ⟨Q3, f3, rfl, -, -⟩ := hk3.form
  obtain ⟨Q4, f4, rfl, -, -⟩ := hk4.form
  have HH := Lib.hid H
  have HB := Lib.hid hb
  clear H hb
  obtain ⟨i0, hi0, hz0, hz1, hz2⟩ := info45_
  have HI0 := Lib.hid hi0
  clear hi0
  obtain ⟨g0, g1, g2, g3, g4, gs⟩ := alloc5_at w (.cells #[.int .i64 c.blocks, .int .i64 c.bytes, .int .i64 c.frames, .int .i64 c.fan, .int .i64 c.buffer, .int .i64 c.leaf, .int .i64 c.key, .int .i64 c.val] 23) (.cells #[.int .i64 p.lev, .slice P1 p.kids.length e1, .slice P2 p.piv.length e2, .slice P3 p.buf.length e3, .slice P4 p.prs.length e4] 29) (.cells #[.int .i64 k.lev, .slice Q1 k.kids.length f1, .slice Q2 k.piv.length f2, .slice Q3 k.buf.length f3, .slice Q4 k.prs.length f4] 29) ZeroN ZeroN
  have hS0 := ((((Chg.alloc (S := fun _ => False) w (.cells #[.int .i64 c.blocks, .int .i64 c.bytes, .int .i64 c.frames, .int .i64 c.fan, .int .i64 c.buffer, .int .i64 c.leaf, .int .i64 c.key, .int .i64 c.val] 23)).allocs (.cells #[.int .i64 p.lev, .slice P1 p.kids.length e1, .slice P2 p.piv.length e2, .slice P3 p.buf.length e3, .slice P4 p.prs.length e4] 29)).allocs (.cells #[.int .i64 k.lev, .slice Q1 k.kids.length f1, .slice Q2 k.piv.length f2, .slice Q3 k.buf.length f3, .slice Q4 k.prs.length f4] 29)).allocs ZeroN).allocs ZeroN
  have HPW0 := Lib.hid (show PW c p k w _ w.heap.size from ⟨⟨heap_cell g0 rfl, heap_cell g0 rfl, heap_cell g0 rfl, heap_cell g0 rfl, heap_cell g0 rfl, heap_cell g0 rfl, heap_cell g0 rfl, heap_cell g0 rfl⟩, ⟨_, _, _, _, _, _, _, _, g1, hp1.outO hS0, hp2.outO hS0, hp3.outO hS0, hp4.outO hS0⟩, ⟨_, _, _, _, _, _, _, _, g2, hk1.outO hS0, hk2.outO hS0, hk3.outO hS0, hk4.outO hS0⟩, g3, g4, hS0, by rw [gs]; exact Nat.le_refl _⟩)
  clear g0 g1 g2 g3 g4 gs hS0 hp1 hp2 hp3 hp4 hk1 hk2 hk3 hk4
  unfold ZeroN at HPW0
  unfold Conf.vs at *
  go_enter Try.func8, Try.ntmps8
  go_upto_region 1 with fail
  generalize ((((w.alloc (.cells #[.int .i64 c.blocks, .int .i64 c.bytes, .int .i64 c.frames, .int .i64 c.fan, .int .i64 c.buffer, .int .i64 c.leaf, .int .i64 c.key, .int .i64 c.val] 23)).alloc (.cells #[.int .i64 p.lev, .slice P1 p.kids.length e1, .slice P2 p.piv.length e2, .slice P3 p.buf.length e3, .slice P4 p.prs.length e4] 29)).alloc (.cells #[.int .i64 k.lev, .slice Q1 k.kids.length f1, .slice Q2 k.piv.length f2, .slice Q3 k.buf.length f3, .slice Q4 k.prs.length f4] 29)).alloc (.cells #[.int .i64 0, .slice none 0 0, .slice none 0 0, .slice none 0 0, .slice none 0 0] 29)).alloc (.cells #[.int .i64 0, .slice none 0 0, .slice none 0 0, .slice none 0 0, .slice none 0 0] 29) = w0 at *
  generalize hg : w.heap.size = g at *
  go_cut [34] from 18 to 33 (fun v wx => v = .bool (decide (refEarly p k at_)) ∧ PW c p k w wx g)
  case first =>
    obtain ⟨-, ⟨A1, c1, A2, c2, A3, c3, A4, c4, hp⟩, ⟨B1, d1, B2, d2, B3, d3, B4, d4, hk⟩, -, -, -, -⟩ := HPW0.out
    have p0 := heap_cell (j := 0) hp.at_ rfl
    have p1' := heap_cell (j := 1) hp.at_ rfl
    have k0' := heap_cell (j := 0) hk.at_ rfl
    clear hp hk
    have hl1 := HH.out.lp
    have hl2 := HH.out.lk
    have hnk := HH.out.np
    by_cases e1 : at_ < 0
    · have HD : Hid (decide (refEarly p k at_) = true) := Lib.hid (decide_eq_true (.inl e1))
      go_wp2
      go_meet
      exact ⟨by rw [HD.out], HPW0.out⟩
    by_cases e2 : (p.kids.length : Int) ≤ at_
    · have HD : Hid (decide (refEarly p k at_) = true) := Lib.hid (decide_eq_true (.inr (.inl e2)))
      go_wp2
      go_meet
      exact ⟨by rw [HD.out], HPW0.out⟩
    by_cases e3 : p.lev = k.lev + 1
    case neg =>
      have HD : Hid (decide (refEarly p k at_) = true) := Lib.hid (decide_eq_true (.inr (.inr e3)))
      have e4 : (p.lev == k.lev + 1) = false := beq_eq_false_iff_ne.2 e3
      have e5 : (p.lev != k.lev + 1) = true := by rw [bne, e4]; rfl
      go_wp2
      go_meet
      exact ⟨by rw [HD.out], HPW0.out⟩
    have e4 : (p.lev == k.lev + 1) = true := beq_iff_eq.2 e3
    have e5 : (p.lev != k.lev + 1) = false := by rw [bne, e4]; rfl
    have HD : Hid (decide (refEarly p k at_) = false) := Lib.hid (decide_eq_false (by rintro (h | h | h) <;> omega))
    have HE3 := Lib.hid e3
    clear e3 e4
    go_wp2
    go_meet
    exact ⟨by rw [HD.out], HPW0.out⟩
  clear HPW0
  case rest =>
    obtain ⟨hv, hpw⟩ := hcut
    have HPW := Lib.hid hpw
    clear hpw
    cases he : decide (refEarly p k at_) with
    | true =>
      rw [he] at hv
      have HEA : Hid (refEarly p k at_) := Lib.hid (of_decide_eq_true he)
      clear he
      subst hv
      have HQ : Hid (refP c p at_ k most = p ∧ refK c p at_ k most = k ∧ refN c p at_ k most = 0) := Lib.hid (by
        unfold refP refK refN
        rw [if_pos HEA.out, if_pos HEA.out, if_pos HEA.out]
        exact ⟨rfl, rfl, rfl⟩)
      clear HEA
      go_upto_region 2 with fail
      obtain ⟨-, ⟨A1, c1, A2, c2, A3, c3, A4, c4, hp⟩, ⟨B1, d1, B2, d2, B3, d3, B4, d4, hk⟩, z1, z2, hst, hsz⟩ := HPW.out
      have HP := Lib.hid hp
      have HK := Lib.hid hk
      have HZ1 := Lib.hid z1
      have HZ2 := Lib.hid z2
      have HSZ := Lib.hid hsz
      have hpD := hp.at_
      have hkD := hk.at_
      unfold ZeroN at z1 z2 HZ1 HZ2
      have hD := Chg.drew (S := fun _ => False) wc
      have hp' := hD.heap hpD id
      have hk' := hD.heap hkD id
      have H0 := Lib.hid (And.intro (heap_cell (j := 0) hp' rfl) (And.intro (heap_cell (j := 1) hp' rfl) (And.intro (heap_cell (j := 2) hp' rfl) (And.intro (heap_cell (j := 3) hp' rfl) (And.intro (heap_cell (j := 4) hp' rfl) (And.intro (heap_cell (j := 0) hk' rfl) (And.intro (heap_cell (j := 1) hk' rfl) (And.intro (heap_cell (j := 2) hk' rfl) (And.intro (heap_cell (j := 3) hk' rfl) (And.intro (heap_cell (j := 4) hk' rfl) (hst.trans hD)))))))))))
      clear hpD hkD hD hp' hk' hp hk z1 z2 hst hsz
      refine wp_region_held_drew (S := fun w' => w'.cell? ⟨g + 1, 0, none⟩ = some (.int .i64 p.lev) ∧ w'.cell? ⟨g + 1, 1, none⟩ = some (.slice A1 p.kids.length c1) ∧ w'.cell? ⟨g + 1, 2, none⟩ = some (.slice A2 p.piv.length c2) ∧ w'.cell? ⟨g + 1, 3, none⟩ = some (.slice A3 p.buf.length c3) ∧ w'.cell? ⟨g + 1, 4, none⟩ = some (.slice A4 p.prs.length c4) ∧ w'.cell? ⟨g + 1 + 1, 0, none⟩ = some (.int .i64 k.lev) ∧ w'.cell? ⟨g + 1 + 1, 1, none⟩ = some (.slice B1 k.kids.length d1) ∧ w'.cell? ⟨g + 1 + 1, 2, none⟩ = some (.slice B2 k.piv.length d2) ∧ w'.cell? ⟨g + 1 + 1, 3, none⟩ = some (.slice B3 k.buf.length d3) ∧ w'.cell? ⟨g + 1 + 1, 4, none⟩ = some (.slice B4 k.prs.length d4) ∧ Still w w') (by kernel_rfl) H0.out (fun hHeld => ?_)
      refine wpAnyH_take (i := 0) (oi := { dst := some 35, op := _, type := _, pos := _, after := _, guard := _ }) (v := ?_) rfl (by kernel_rfl) (by kernel_rfl) (by kernel_rfl) (fun _ _ _ h => h) (Or.inl ⟨by rfl, ?_⟩) (by assumption) ?_
      case refine_2 => intro w hSw; (try dsimp only at hSw); go_simp; all_goals (with_reducible rfl)
      try simp only [Act.put, List.setIfInBounds_toArray, List.set_cons_zero, List.set_cons_succ]
      refine wpAnyH_take (i := 1) (oi := { dst := some 36, op := _, type := _, pos := _, after := _, guard := _ }) (v := ?_) rfl (by kernel_rfl) (by kernel_rfl) (by kernel_rfl) (fun _ _ _ h => h) (Or.inl ⟨by rfl, ?_⟩) (by assumption) ?_
      case refine_2 => intro w hSw; (try dsimp only at hSw); go_simp; all_goals (with_reducible rfl)
      try simp only [Act.put, List.setIfInBounds_toArray, List.set_cons_zero, List.set_cons_succ]
      have HDR := Lib.hid (Chg.drew (S := fun _ => False) wc)
      generalize wc.drew = wd at *
      have hx1 := HDR.out.heap HZ1.out id
      have q0 := heap_cell (j := 0) hx1 rfl
      have q1 := heap_cell (j := 1) hx1 rfl
      have q2 := heap_cell (j := 2) hx1 rfl
      have q3 := heap_cell (j := 3) hx1 rfl
      have q4 := heap_cell (j := 4) hx1 rfl
      have f0 := heap_free (j := 0) hx1
      have f1 := heap_free (j := 1) hx1
      have f2 := heap_free (j := 2) hx1
      have f3 := heap_free (j := 3) hx1
      have f4 := heap_free (j := 4) hx1
      clear hx1
      refine wpAnyH_ready (rs := [2]) (by kernel_rfl) (by simp) ?_
      refine AllReadyH.cons (o := { dst := none, op := _, type := _, pos := _, after := _, guard := _ }) rfl (fun K hK => ?_) AllReadyH.nil
      go_simp
      refine hK.out _ _ (keep10 hHeld (set5 (w := wd) (g + 1 + 1 + 1) (.int .i64 p.lev) (.slice A1 p.kids.length c1) (.slice A2 p.piv.length c2) (.slice A3 p.buf.length c3) (.slice A4 p.prs.length c4)) (by omega) (by omega) (by omega)) (fun hHeld => ?_)
      clear hK K
      try simp only [Act.put, List.setIfInBounds_toArray, List.set_cons_zero, List.set_cons_succ]
      clear q0 q1 q2 q3 q4 f0 f1 f2 f3 f4
      have HY1 := Lib.hid (set5_heap (HDR.out.heap HZ1.out id) (.int .i64 p.lev) (.slice A1 p.kids.length c1) (.slice A2 p.piv.length c2) (.slice A3 p.buf.length c3) (.slice A4 p.prs.length c4))
      have HC1 := Lib.hid (set5 (w := wd) (g + 1 + 1 + 1) (.int .i64 p.lev) (.slice A1 p.kids.length c1) (.slice A2 p.piv.length c2) (.slice A3 p.buf.length c3) (.slice A4 p.prs.length c4))
      generalize (((((wd.setCell ⟨g + 1 + 1 + 1, 0, none⟩ (.int .i64 p.lev)).setCell ⟨g + 1 + 1 + 1, 1, none⟩ (.slice A1 p.kids.length c1)).setCell ⟨g + 1 + 1 + 1, 2, none⟩ (.slice A2 p.piv.length c2)).setCell ⟨g + 1 + 1 + 1, 3, none⟩ (.slice A3 p.buf.length c3)).setCell ⟨g + 1 + 1 + 1, 4, none⟩ (.slice A4 p.prs.length c4)) = wa at *
      have hx2 := HC1.out.heap (HDR.out.heap HZ2.out id) (show ¬ g + 1 + 1 + 1 + 1 = g + 1 + 1 + 1 by omega)
      have q0 := heap_cell (j := 0) hx2 rfl
      have q1 := heap_cell (j := 1) hx2 rfl
      have q2 := heap_cell (j := 2) hx2 rfl
      have q3 := heap_cell (j := 3) hx2 rfl
      have q4 := heap_cell (j := 4) hx2 rfl
      have f0 := heap_free (j := 0) hx2
      have f1 := heap_free (j := 1) hx2
      have f2 := heap_free (j := 2) hx2
      have f3 := heap_free (j := 3) hx2
      have f4 := heap_free (j := 4) hx2
      clear hx2
      refine wpAnyH_ready (rs := [3]) (by kernel_rfl) (by simp) ?_
      refine AllReadyH.cons (o := { dst := none, op := _, type := _, pos := _, after := _, guard := _ }) rfl (fun K hK => ?_) AllReadyH.nil
      go_simp
      refine hK.out _ _ (keep10 hHeld (set5 (w := wa) (g + 1 + 1 + 1 + 1) (.int .i64 k.lev) (.slice B1 k.kids.length d1) (.slice B2 k.piv.length d2) (.slice B3 k.buf.length d3) (.slice B4 k.prs.length d4)) (by omega) (by omega) (by omega)) (fun hHeld => ?_)
      clear hK K
      try simp only [Act.put, List.setIfInBounds_toArray, List.set_cons_zero, List.set_cons_succ]
      clear q0 q1 q2 q3 q4 f0 f1 f2 f3 f4
      have HY2 := Lib.hid (set5_heap (HC1.out.heap (HDR.out.heap HZ2.out id) (show ¬ g + 1 + 1 + 1 + 1 = g + 1 + 1 + 1 by omega)) (.int .i64 k.lev) (.slice B1 k.kids.length d1) (.slice B2 k.piv.length d2) (.slice B3 k.buf.length d3) (.slice B4 k.prs.length d4))
      have HC2 := Lib.hid (set5 (w := wa) (g + 1 + 1 + 1 + 1) (.int .i64 k.lev) (.slice B1 k.kids.length d1) (.slice B2 k.piv.length d2) (.slice B3 k.buf.length d3) (.slice B4 k.prs.length d4))
      generalize (((((wa.setCell ⟨g + 1 + 1 + 1 + 1, 0, none⟩ (.int .i64 k.lev)).setCell ⟨g + 1 + 1 + 1 + 1, 1, none⟩ (.slice B1 k.kids.length d1)).setCell ⟨g + 1 + 1 + 1 + 1, 2, none⟩ (.slice B2 k.piv.length d2)).setCell ⟨g + 1 + 1 + 1 + 1, 3, none⟩ (.slice B3 k.buf.length d3)).setCell ⟨g + 1 + 1 + 1 + 1, 4, none⟩ (.slice B4 k.prs.length d4)) = wb at *
      refine wpAnyH_take (i := 4) (oi := { dst := some 12, op := _, type := _, pos := _, after := _, guard := _ }) (v := ?_) rfl (by kernel_rfl) (by kernel_rfl) (by kernel_rfl) (fun _ _ _ h => h) (Or.inl ⟨by rfl, ?_⟩) (by assumption) ?_
      case refine_2 => intro w hSw; (try dsimp only at hSw); go_simp; all_goals (with_reducible rfl)
      try simp only [Act.put, List.setIfInBounds_toArray, List.set_cons_zero, List.set_cons_succ]
      refine wpAnyH_done (by kernel_rfl) ?_ _
      have HE := Lib.hid hHeld.2.2.2.2.2.2.2.2.2.2
      clear hHeld
      have hy1 := HC2.out.heap HY1.out (show ¬ g + 1 + 1 + 1 = g + 1 + 1 + 1 + 1 by omega)
      have hy2 := HY2.out
      have q0 := heap_cell (j := 0) hy1 rfl
      have q1 := heap_cell (j := 1) hy1 rfl
      have q2 := heap_cell (j := 2) hy1 rfl
      have q3 := heap_cell (j := 3) hy1 rfl
      have q4 := heap_cell (j := 4) hy1 rfl
      have r0 := heap_cell (j := 0) hy2 rfl
      have r1 := heap_cell (j := 1) hy2 rfl
      have r2 := heap_cell (j := 2) hy2 rfl
      have r3 := heap_cell (j := 3) hy2 rfl
      have r4 := heap_cell (j := 4) hy2 rfl
      clear hy1 hy2
      go_wp2
      refine bodyPost_ret (v := .tuple #[.agg #[.int .i64 p.lev, .slice A1 p.kids.length c1, .slice A2 p.piv.length c2, .slice A3 p.buf.length c3, .slice A4 p.prs.length c4], .agg #[.int .i64 k.lev, .slice B1 k.kids.length d1, .slice B2 k.piv.length d2, .slice B3 k.buf.length d3, .slice B4 k.prs.length d4], .int .i64 0]) (by simp [results, Try.results8, go_sem, *]) rfl ?_
      exact ⟨_, _, by rw [HQ.out.2.2]; rfl, by rw [HQ.out.1]; exact fin_made HP.out HDR.out HC1.out HC2.out (by omega) (by omega), by rw [HQ.out.2.1]; exact fin_made HK.out HDR.out HC1.out HC2.out (by omega) (by omega), HE.out⟩
    | false =>
      rw [he] at hv
      have HEA : Hid (¬ refEarly p k at_) := Lib.hid (of_decide_eq_false he)
      clear he
      subst hv
      have hcb := HH.out.cb
      obtain ⟨klev, kkids, kpiv, kbuf, kprs⟩ := k
      have hkb : kbuf.length ≤ 200000 := HH.out.bb
      have hl0 : klev = 0 ∨ 0 < klev := by have := HH.out.lk.1; simp only at this; omega
      rcases hl0 with hl | hl
      · subst hl
        obtain ⟨-, -, ⟨B1, d1, B2, d2, B3, d3, B4, d4, hk⟩, -, -, -, -⟩ := HPW.out
        have k3' : wc.cell? ⟨g + 1 + 1, 3, none⟩ = some (.slice B3 kbuf.length d3) := heap_cell (j := 3) hk.at_ rfl
        have q4' := HPW.out.conf.2.2.2.2.1
        clear hk
        have HPR := Lib.hid (HPW.out.pr (.cells #[] 45))
        have HO0 : Hid ((wc.alloc (.cells #[] 45)).ownsRow (g + 5) 45 3 (.slice (some ⟨wc.heap.size, 0, none⟩) 0 0) 0 []) := Lib.hid (World.ownsRow_made wc #[] 0 HPW.out.size (Nat.zero_le _) (by simp))
        clear HPW
        go_wp2_with fail
        clear k3' q4'
        go_loopw [14, 15, 16] (fun u l i wx => ∃ (j gl cl n : Nat) (left kb : List Msg) (kp : List Pr), j ≤ p.buf.length ∧ i = .int .i64 (j : Nat) ∧ u = .int .i64 (n : Nat) ∧ l = .slice (some ⟨gl, 0, none⟩) left.length cl ∧ Hid ((left, n, kb, kp) = (p.buf.take j).foldl (refStep p at_ 0 (c.buffer - (kbuf.length : Int)) most) ([], 0, kbuf, kprs)) ∧ Hid (RInv (⟨0, kkids, kpiv, kbuf, kprs⟩ : Nd) j (left, n, kb, kp)) ∧ Hid (wx.ownsRow (g + 5) 45 3 (.slice (some ⟨gl, 0, none⟩) left.length cl) left.length (left.flatMap encM)) ∧ Hid (PR c p (⟨0, kkids, kpiv, kb, kp⟩ : Nd) w wx g gl)) (fun _ _ i _ => p.buf.length - nv i)
        case atStart => exact ⟨0, _, 0, 0, [], kbuf, kprs, Nat.zero_le _, rfl, rfl, rfl, Lib.hid rfl, Lib.hid ⟨Nat.le_refl _, Nat.le_refl _, Nat.le_refl _, Nat.le_refl _, HB.out, HH.out.rk⟩, HO0, HPR⟩
        clear HPR HO0
        case round =>
          obtain ⟨j, gl, cl, n, left, kb, kp, hj, rfl, rfl, rfl, HE, HI, HO, HPR⟩ := hrel
          obtain ⟨il, inn, ibl, ipl, -, -⟩ := HI.out
          simp only at il inn ibl ipl
          have hbb : kbuf.length ≤ 200000 := HH.out.bb
          have hbk : kprs.length ≤ 200000 := HH.out.bk
          have hbp := HH.out.bp
          by_cases hlt : j < p.buf.length
          · obtain ⟨A1, c1, A2, c2, A3, c3, A4, c4, hp, -, -, -, -⟩ := HPR.out.p.ex
            obtain ⟨b, off, rfl, hb, x0, x1, x2⟩ := hp.s3.1.msg j hlt
            have p3' := heap_cell (j := 3) hp.at_ rfl
            have HP2 := Lib.hid hp
            clear hp
            have HSN : Hid ((p.buf.take (j + 1)).foldl (refStep p at_ 0 (c.buffer - (kbuf.length : Int)) most) ([], 0, kbuf, kprs) = refStep p at_ 0 (c.buffer - (kbuf.length : Int)) most (left, n, kb, kp) p.buf[j]) := Lib.hid (by rw [List.take_succ_eq_append_getElem hlt, List.foldl_append, ← HE.out]; rfl)
            have HIN : Hid (RInv (⟨0, kkids, kpiv, kbuf, kprs⟩ : Nd) (j + 1) (refStep p at_ 0 (c.buffer - (kbuf.length : Int)) most (left, n, kb, kp) p.buf[j])) := Lib.hid (HI.out.step p at_ 0 (c.buffer - (kbuf.length : Int)) most p.buf[j])
            generalize p.buf[j] = m at x0 x1 x2 HSN HIN
            obtain ⟨key, del, val⟩ := m
            simp only at x0 x1 x2
            go_upto_region 10 with fail
            have HM := Lib.hid (heap_alloc_new wr (.cells #[.string key.1, .bool del, .string val.1] 45))
            have HPA := Lib.hid (HPR.out.move (Chg.alloc wr (.cells #[.string key.1, .bool del, .string val.1] 45)))
            have HOA := Lib.hid (own_still HO.out (Chg.alloc wr (.cells #[.string key.1, .bool del, .string val.1] 45)))
            clear x0 x1 x2 p3' HP2 HPR HO
            generalize wr.alloc (.cells #[.string key.1, .bool del, .string val.1] 45) = wa at *
            generalize wr.heap.size = gm at *
            go_cut [77] from 56 to 76 (fun v wx => v = .bool (decide ((wayN p.piv key : Int) ≠ at_ ∨ most ≤ (n : Int) ∨ (0 < (0 : Int) ∧ c.buffer - (kbuf.length : Int) ≤ (n : Int)))) ∧ wx.heap[gm]? = some (.cells #[.string key.1, .bool del, .string val.1] 45) ∧ wx.ownsRow (g + 5) 45 3 (.slice (some ⟨gl, 0, none⟩) left.length cl) left.length (left.flatMap encM) ∧ PR c p (⟨0, kkids, kpiv, kb, kp⟩ : Nd) w wx g gl)
            case first =>
              obtain ⟨A1, c1, A2, c2, A3', c3', A4, c4, hp, -, -, -, -⟩ := HPA.out.p.ex
              have p2' := heap_cell (j := 2) hp.at_ rfl
              have l0 := heap_cell (j := 0) HM.out rfl
              go_wp2_with fail
              refine (way hp.s2.1 key).mono ?_
              rintro e w2 ⟨rfl, hs⟩
              have HM2 := Lib.hid (hs.heap HM.out id)
              have HP2 := Lib.hid (HPA.out.move hs)
              have HO2 := Lib.hid (own_still HOA.out hs)
              have hwl := wayN_le p.piv key
              clear hs hp p2' l0
              obtain ⟨B1, d1, B2, d2, B3, d3, B4, d4, hk, -, -, -, -⟩ := HP2.out.k.ex
              have k0' : w2.cell? ⟨g + 1 + 1, 0, none⟩ = some (.int .i64 0) := heap_cell (j := 0) hk.at_ rfl
              clear hk
              have hDD : ∀ b : Bool, Hid (decide ((wayN p.piv key : Int) ≠ at_ ∨ most ≤ (n : Int) ∨ (0 < (0 : Int) ∧ c.buffer - (kbuf.length : Int) ≤ (n : Int))) = b) → .bool b = Value.bool (decide ((wayN p.piv key : Int) ≠ at_ ∨ most ≤ (n : Int) ∨ (0 < (0 : Int) ∧ c.buffer - (kbuf.length : Int) ≤ (n : Int)))) ∧ w2.heap[gm]? = some (.cells #[.string key.1, .bool del, .string val.1] 45) ∧ w2.ownsRow (g + 5) 45 3 (.slice (some ⟨gl, 0, none⟩) left.length cl) left.length (left.flatMap encM) ∧ PR c p (⟨0, kkids, kpiv, kb, kp⟩ : Nd) w w2 g gl := fun b h => ⟨by rw [h.out], HM2.out, HO2.out, HP2.out⟩
              have HDD := Lib.hid hDD
              clear hDD HP2 HO2 HM2
              by_cases e1 : (wayN p.piv key : Int) = at_
              case neg =>
                have HT : Hid (decide ((wayN p.piv key : Int) ≠ at_ ∨ most ≤ (n : Int) ∨ (0 < (0 : Int) ∧ c.buffer - (kbuf.length : Int) ≤ (n : Int))) = true) := Lib.hid (decide_eq_true (.inl e1))
                have e2 : ((wayN p.piv key : Int) == at_) = false := beq_eq_false_iff_ne.2 e1
                have e3 : ((wayN p.piv key : Int) != at_) = true := by rw [bne, e2]; rfl
                go_wp2
                go_meet
                exact HDD.out _ HT
              have e2 : ((wayN p.piv key : Int) == at_) = true := beq_iff_eq.2 e1
              have e3 : ((wayN p.piv key : Int) != at_) = false := by rw [bne, e2]; rfl
              have HE1 := Lib.hid e1
              clear e1 e2
              by_cases e4 : most ≤ (n : Int)
              · have HT : Hid (decide ((wayN p.piv key : Int) ≠ at_ ∨ most ≤ (n : Int) ∨ (0 < (0 : Int) ∧ c.buffer - (kbuf.length : Int) ≤ (n : Int))) = true) := Lib.hid (decide_eq_true (.inr (.inl e4)))
                go_wp2
                go_meet
                exact HDD.out _ HT
              have HT : Hid (decide ((wayN p.piv key : Int) ≠ at_ ∨ most ≤ (n : Int) ∨ (0 < (0 : Int) ∧ c.buffer - (kbuf.length : Int) ≤ (n : Int))) = false) := Lib.hid (decide_eq_false (by rintro (h | h | ⟨h, -⟩); exact h HE1.out; exact e4 h; omega))
              go_wp2
              go_meet
              exact HDD.out _ (Lib.hid (HT.out.trans (decide_eq_false (by omega)).symm))
            clear HPA HOA HM
            case rest =>
              obtain ⟨hv, hm, ho, hpr⟩ := hcut
              have HM := Lib.hid hm
              have HO := Lib.hid ho
              have HPR := Lib.hid hpr
              clear hm ho hpr
              have l0 := heap_cell (j := 0) HM.out rfl
              have l1 := heap_cell (j := 1) HM.out rfl
              have l2 := heap_cell (j := 2) HM.out rfl
              cases hd : decide ((wayN p.piv key : Int) ≠ at_ ∨ most ≤ (n : Int) ∨ (0 < (0 : Int) ∧ c.buffer - (kbuf.length : Int) ≤ (n : Int))) with
              | true =>
                rw [hd] at hv
                subst hv
                have HST : Hid (refStep p at_ 0 (c.buffer - (kbuf.length : Int)) most (left, n, kb, kp) ⟨key, del, val⟩ = (left ++ [⟨key, del, val⟩], n, kb, kp)) := Lib.hid (if_pos (of_decide_eq_true hd))
                clear hd
                go_wp2_with (at_builtin; refine wpList_append_at (enc := encM) rfl _ _ 26 rfl (g + 5) 45 i0 (.agg #[.string ⟨#[]⟩, .bool false, .string ⟨#[]⟩]) 3 40 under26_ HI0.out hz0 hz1 hz2 rfl (by decide) lenM gl cl left.length (left.flatMap encM) rfl (own_still HO.out (Chg.alloc _ _)) ⟨wc.heap.size, 0, none⟩ 1 1 [(⟨key, del, val⟩ : Msg)] rfl (one_sl lenM wc (⟨key, del, val⟩ : Msg) 45 #[.string key.1, .bool del, .string val.1] rfl) (oneM _) (by unfold maxLen; rw [List.length_singleton]; omega) (by rw [List.length_singleton]; omega) (Nat.le_trans HPR.out.size (Chg.alloc (S := fun _ => False) _ _).size) ?_)
                intro g' cap' w' hown hgr hgg
                have HO2 : Hid (w'.ownsRow (g + 5) 45 3 (.slice (some ⟨g', 0, none⟩) (left ++ [(⟨key, del, val⟩ : Msg)]).length cap') (left ++ [(⟨key, del, val⟩ : Msg)]).length ((left ++ [(⟨key, del, val⟩ : Msg)]).flatMap encM)) := Lib.hid (by rw [List.length_append, List.flatMap_append]; exact hown)
                have HPR2 := Lib.hid ((HPR.out.move (Chg.alloc wc (.cells #[.string key.1, .bool del, .string val.1] 45))).grown hgr (by rw [size_al]; exact hgg) (hown.lt g' rfl).2 hg)
                have HLL : Hid ((left ++ [(⟨key, del, val⟩ : Msg)]).length = left.length + 1) := Lib.hid (by rw [List.length_append, List.length_singleton])
                clear hown hgr hgg l0 l1 l2
                go_wp2
                go_roundw
                case rel => exact ⟨j + 1, g', cap', n, left ++ [⟨key, del, val⟩], kb, kp, by omega, by go_num, rfl, by rw [HLL.out], Lib.hid (by rw [HSN.out, HST.out]), Lib.hid (by rw [← HST.out]; exact HIN.out), HO2, HPR2⟩
                case measure => simp [nv]; omega
              | false =>
                rw [hd] at hv
                subst hv
                have HST : Hid (refStep p at_ 0 (c.buffer - (kbuf.length : Int)) most (left, n, kb, kp) ⟨key, del, val⟩ = (left, n + 1, kb, app1 kp ⟨key, del, val⟩)) := Lib.hid (by unfold refStep; rw [if_neg (of_decide_eq_false hd), if_pos rfl])
                clear hd
                obtain ⟨B1, d1, B2, d2, B3, d3, B4, d4, hk, -, -, -, -⟩ := HPR.out.k.ex
                have HK := Lib.hid hk
                have k0' : wc.cell? ⟨g + 1 + 1, 0, none⟩ = some (.int .i64 0) := heap_cell (j := 0) hk.at_ rfl
                have k4' : wc.cell? ⟨g + 1 + 1, 4, none⟩ = some (.slice B4 kp.length d4) := heap_cell (j := 4) hk.at_ rfl
                clear hk
                have HC : Hid (Calls Try.prog 22 #[.slice B4 kp.length d4, .slice (some ⟨wc.heap.size, 0, none⟩) 1 1] (wc.alloc (.cells #[.string key.1, .bool del, .string val.1] 45)) (PairsP (app1 kp ⟨key, del, val⟩) (wc.alloc (.cells #[.string key.1, .bool del, .string val.1] 45)))) := Lib.hid (apply22 (HK.out.s4.1.still (Chg.alloc _ _)) (one_sl lenM wc (⟨key, del, val⟩ : Msg) 45 #[.string key.1, .bool del, .string val.1] rfl) HI.out.pr (by (try simp only); omega) (by simp) (by simp))
                have hA := Chg.alloc (S := fun _ => False) wc (.cells #[.string key.1, .bool del, .string val.1] 45)
                obtain ⟨r, hr⟩ : ∃ r, r = app1 kp ⟨key, del, val⟩ := ⟨_, rfl⟩
                rw [← hr] at HC HST
                have HR := Lib.hid hr
                have HA := Lib.hid hA
                clear hr hA
                go_wp2_with fail
                refine HC.out.mono ?_
                rintro e w4 ⟨v5, rfl, h5, hs⟩
                obtain ⟨X, cx, rfl, -, -⟩ := h5.1.form
                have H5 := Lib.hid (h5.outO (Nat.le_trans HPR.out.size HA.out.size))
                have H5o := Lib.hid (h5.off (Nat.lt_of_lt_of_le HPR.out.row.2 HA.out.size))
                have HPR4 := Lib.hid (HPR.out.move (HA.out.trans hs))
                have HO4 := Lib.hid (own_still HO.out (HA.out.trans hs))
                clear h5 hs HC HPR HO HK HM l0 l1 l2 k0' k4'
                have HPR5 := Lib.hid (HPR4.out.setKp hg H5.out H5o.out)
                have hcs : Chg (fun i => i = g + 1 + 1) w4 (w4.setCell ⟨g + 1 + 1, 4, none⟩ (.slice X r.length cx)) := Chg.setCell w4 _ _ rfl
                have HO5 := Lib.hid (hcs.own HO4.out (fun k hk => by simp only [Value.ownBlock, Option.some.injEq] at hk; have := HPR4.out.row.1; omega))
                obtain ⟨B1', d1', B2', d2', B3', d3', B4', d4', hk, -, -, -, -⟩ := HPR4.out.k.ex
                have k4' := heap_cell (j := 4) hk.at_ rfl
                have f4' := heap_free (j := 4) hk.at_
                clear hk hcs
                generalize hw5 : w4.setCell ⟨g + 1 + 1, 4, none⟩ (.slice X r.length cx) = w5 at *
                have HW5 := Lib.hid hw5
                clear hw5
                go_wp2_with fail
                rw [HW5.out]
                clear k4' f4'
                go_roundw
                case rel => exact ⟨j + 1, gl, cl, n + 1, left, kb, r, by omega, by go_num, by go_num, rfl, Lib.hid (by rw [HSN.out, HST.out]), Lib.hid (by rw [← HST.out]; exact HIN.out), HO5, HPR5⟩
                case measure => simp [nv]; omega
          · have HFF : Hid ((left, n, kb, kp) = p.buf.foldl (refStep p at_ 0 (c.buffer - (kbuf.length : Int)) most) ([], 0, kbuf, kprs)) := Lib.hid (by rw [HE.out, List.take_of_length_le (by omega)])
            clear HE
            have HSL := Lib.hid ((own_slf lenM (by decide) HO.out (Nat.le_refl _)).outO (Nat.le_refl _))
            have HPW5 := Lib.hid (HPR.out.pw.setP hg HSL.out)
            obtain ⟨A1, c1, A2, c2, A3, c3, A4, c4, hp, -, -, -, -⟩ := HPR.out.p.ex
            have p3' := heap_cell (j := 3) hp.at_ rfl
            have f3' := heap_free (j := 3) hp.at_
            clear hp
            generalize hw5 : wr.setCell ⟨g + 1, 3, none⟩ (.slice (some ⟨gl, 0, none⟩) left.length cl) = w5 at *
            have HW5 := Lib.hid hw5
            clear hw5
            go_upto_region 17 with fail
            rw [HW5.out]
            clear p3' f3' HW5 HPR HO HSL
            obtain ⟨-, ⟨A1, c1, A2, c2, A3, c3, A4, c4, hp⟩, ⟨B1, d1, B2, d2, B3, d3, B4, d4, hk⟩, z1, z2, hst, hsz⟩ := HPW5.out
            have HP := Lib.hid hp
            have HK := Lib.hid hk
            have HZ1 := Lib.hid z1
            have HZ2 := Lib.hid z2
            have HSZ := Lib.hid hsz
            have hpD := hp.at_
            have hkD := hk.at_
            unfold ZeroN at z1 z2 HZ1 HZ2
            have hD := Chg.drew (S := fun _ => False) w5
            have hp' := hD.heap hpD id
            have hk' := hD.heap hkD id
            have H0 := Lib.hid (And.intro (heap_cell (j := 0) hp' rfl) (And.intro (heap_cell (j := 1) hp' rfl) (And.intro (heap_cell (j := 2) hp' rfl) (And.intro (heap_cell (j := 3) hp' rfl) (And.intro (heap_cell (j := 4) hp' rfl) (And.intro (heap_cell (j := 0) hk' rfl) (And.intro (heap_cell (j := 1) hk' rfl) (And.intro (heap_cell (j := 2) hk' rfl) (And.intro (heap_cell (j := 3) hk' rfl) (And.intro (heap_cell (j := 4) hk' rfl) (hst.trans hD)))))))))))
            clear hpD hkD hD hp' hk' hp hk z1 z2 hst hsz
            refine wp_region_held_drew (S := fun w' => w'.cell? ⟨g + 1, 0, none⟩ = some (.int .i64 p.lev) ∧ w'.cell? ⟨g + 1, 1, none⟩ = some (.slice A1 p.kids.length c1) ∧ w'.cell? ⟨g + 1, 2, none⟩ = some (.slice A2 p.piv.length c2) ∧ w'.cell? ⟨g + 1, 3, none⟩ = some (.slice A3 left.length c3) ∧ w'.cell? ⟨g + 1, 4, none⟩ = some (.slice A4 p.prs.length c4) ∧ w'.cell? ⟨g + 1 + 1, 0, none⟩ = some (.int .i64 0) ∧ w'.cell? ⟨g + 1 + 1, 1, none⟩ = some (.slice B1 kkids.length d1) ∧ w'.cell? ⟨g + 1 + 1, 2, none⟩ = some (.slice B2 kpiv.length d2) ∧ w'.cell? ⟨g + 1 + 1, 3, none⟩ = some (.slice B3 kb.length d3) ∧ w'.cell? ⟨g + 1 + 1, 4, none⟩ = some (.slice B4 kp.length d4) ∧ Still w w') (by kernel_rfl) H0.out (fun hHeld => ?_)
            refine wpAnyH_take (i := 0) (oi := { dst := some 100, op := _, type := _, pos := _, after := _, guard := _ }) (v := ?_) rfl (by kernel_rfl) (by kernel_rfl) (by kernel_rfl) (fun _ _ _ h => h) (Or.inl ⟨by rfl, ?_⟩) (by assumption) ?_
            case refine_2 => intro w hSw; (try dsimp only at hSw); go_simp; all_goals (with_reducible rfl)
            try simp only [Act.put, List.setIfInBounds_toArray, List.set_cons_zero, List.set_cons_succ]
            refine wpAnyH_take (i := 1) (oi := { dst := some 101, op := _, type := _, pos := _, after := _, guard := _ }) (v := ?_) rfl (by kernel_rfl) (by kernel_rfl) (by kernel_rfl) (fun _ _ _ h => h) (Or.inl ⟨by rfl, ?_⟩) (by assumption) ?_
            case refine_2 => intro w hSw; (try dsimp only at hSw); go_simp; all_goals (with_reducible rfl)
            try simp only [Act.put, List.setIfInBounds_toArray, List.set_cons_zero, List.set_cons_succ]
            refine wpAnyH_take (i := 2) (oi := { dst := some 102, op := _, type := _, pos := _, after := _, guard := _ }) (v := ?_) rfl (by kernel_rfl) (by kernel_rfl) (by kernel_rfl) (fun _ _ _ h => h) (Or.inl ⟨by rfl, ?_⟩) (by assumption) ?_
            case refine_2 => intro w hSw; (try dsimp only at hSw); go_simp; all_goals (with_reducible rfl)
            try simp only [Act.put, List.setIfInBounds_toArray, List.set_cons_zero, List.set_cons_succ]
            have HDR := Lib.hid (Chg.drew (S := fun _ => False) w5)
            generalize w5.drew = wd at *
            have hx1 := HDR.out.heap HZ1.out id
            have q0 := heap_cell (j := 0) hx1 rfl
            have q1 := heap_cell (j := 1) hx1 rfl
            have q2 := heap_cell (j := 2) hx1 rfl
            have q3 := heap_cell (j := 3) hx1 rfl
            have q4 := heap_cell (j := 4) hx1 rfl
            have f0 := heap_free (j := 0) hx1
            have f1 := heap_free (j := 1) hx1
            have f2 := heap_free (j := 2) hx1
            have f3 := heap_free (j := 3) hx1
            have f4 := heap_free (j := 4) hx1
            clear hx1
            refine wpAnyH_ready (rs := [3]) (by kernel_rfl) (by simp) ?_
            refine AllReadyH.cons (o := { dst := none, op := _, type := _, pos := _, after := _, guard := _ }) rfl (fun K hK => ?_) AllReadyH.nil
            go_simp
            refine hK.out _ _ (keep10 hHeld (set5 (w := wd) (g + 1 + 1 + 1) (.int .i64 p.lev) (.slice A1 p.kids.length c1) (.slice A2 p.piv.length c2) (.slice A3 left.length c3) (.slice A4 p.prs.length c4)) (by omega) (by omega) (by omega)) (fun hHeld => ?_)
            clear hK K
            try simp only [Act.put, List.setIfInBounds_toArray, List.set_cons_zero, List.set_cons_succ]
            clear q0 q1 q2 q3 q4 f0 f1 f2 f3 f4
            have HY1 := Lib.hid (set5_heap (HDR.out.heap HZ1.out id) (.int .i64 p.lev) (.slice A1 p.kids.length c1) (.slice A2 p.piv.length c2) (.slice A3 left.length c3) (.slice A4 p.prs.length c4))
            have HC1 := Lib.hid (set5 (w := wd) (g + 1 + 1 + 1) (.int .i64 p.lev) (.slice A1 p.kids.length c1) (.slice A2 p.piv.length c2) (.slice A3 left.length c3) (.slice A4 p.prs.length c4))
            generalize (((((wd.setCell ⟨g + 1 + 1 + 1, 0, none⟩ (.int .i64 p.lev)).setCell ⟨g + 1 + 1 + 1, 1, none⟩ (.slice A1 p.kids.length c1)).setCell ⟨g + 1 + 1 + 1, 2, none⟩ (.slice A2 p.piv.length c2)).setCell ⟨g + 1 + 1 + 1, 3, none⟩ (.slice A3 left.length c3)).setCell ⟨g + 1 + 1 + 1, 4, none⟩ (.slice A4 p.prs.length c4)) = wa at *
            have hx2 := HC1.out.heap (HDR.out.heap HZ2.out id) (show ¬ g + 1 + 1 + 1 + 1 = g + 1 + 1 + 1 by omega)
            have q0 := heap_cell (j := 0) hx2 rfl
            have q1 := heap_cell (j := 1) hx2 rfl
            have q2 := heap_cell (j := 2) hx2 rfl
            have q3 := heap_cell (j := 3) hx2 rfl
            have q4 := heap_cell (j := 4) hx2 rfl
            have f0 := heap_free (j := 0) hx2
            have f1 := heap_free (j := 1) hx2
            have f2 := heap_free (j := 2) hx2
            have f3 := heap_free (j := 3) hx2
            have f4 := heap_free (j := 4) hx2
            clear hx2
            refine wpAnyH_ready (rs := [4]) (by kernel_rfl) (by simp) ?_
            refine AllReadyH.cons (o := { dst := none, op := _, type := _, pos := _, after := _, guard := _ }) rfl (fun K hK => ?_) AllReadyH.nil
            go_simp
            refine hK.out _ _ (keep10 hHeld (set5 (w := wa) (g + 1 + 1 + 1 + 1) (.int .i64 0) (.slice B1 kkids.length d1) (.slice B2 kpiv.length d2) (.slice B3 kb.length d3) (.slice B4 kp.length d4)) (by omega) (by omega) (by omega)) (fun hHeld => ?_)
            clear hK K
            try simp only [Act.put, List.setIfInBounds_toArray, List.set_cons_zero, List.set_cons_succ]
            clear q0 q1 q2 q3 q4 f0 f1 f2 f3 f4
            have HY2 := Lib.hid (set5_heap (HC1.out.heap (HDR.out.heap HZ2.out id) (show ¬ g + 1 + 1 + 1 + 1 = g + 1 + 1 + 1 by omega)) (.int .i64 0) (.slice B1 kkids.length d1) (.slice B2 kpiv.length d2) (.slice B3 kb.length d3) (.slice B4 kp.length d4))
            have HC2 := Lib.hid (set5 (w := wa) (g + 1 + 1 + 1 + 1) (.int .i64 0) (.slice B1 kkids.length d1) (.slice B2 kpiv.length d2) (.slice B3 kb.length d3) (.slice B4 kp.length d4))
            generalize (((((wa.setCell ⟨g + 1 + 1 + 1 + 1, 0, none⟩ (.int .i64 0)).setCell ⟨g + 1 + 1 + 1 + 1, 1, none⟩ (.slice B1 kkids.length d1)).setCell ⟨g + 1 + 1 + 1 + 1, 2, none⟩ (.slice B2 kpiv.length d2)).setCell ⟨g + 1 + 1 + 1 + 1, 3, none⟩ (.slice B3 kb.length d3)).setCell ⟨g + 1 + 1 + 1 + 1, 4, none⟩ (.slice B4 kp.length d4)) = wb at *
            refine wpAnyH_take (i := 5) (oi := { dst := some 12, op := _, type := _, pos := _, after := _, guard := _ }) (v := ?_) rfl (by kernel_rfl) (by kernel_rfl) (by kernel_rfl) (fun _ _ _ h => h) (Or.inl ⟨by rfl, ?_⟩) (by assumption) ?_
            case refine_2 => intro w hSw; (try dsimp only at hSw); go_simp; all_goals (with_reducible rfl)
            try simp only [Act.put, List.setIfInBounds_toArray, List.set_cons_zero, List.set_cons_succ]
            refine wpAnyH_done (by kernel_rfl) ?_ _
            have HE := Lib.hid hHeld.2.2.2.2.2.2.2.2.2.2
            clear hHeld
            have hy1 := HC2.out.heap HY1.out (show ¬ g + 1 + 1 + 1 = g + 1 + 1 + 1 + 1 by omega)
            have hy2 := HY2.out
            have q0 := heap_cell (j := 0) hy1 rfl
            have q1 := heap_cell (j := 1) hy1 rfl
            have q2 := heap_cell (j := 2) hy1 rfl
            have q3 := heap_cell (j := 3) hy1 rfl
            have q4 := heap_cell (j := 4) hy1 rfl
            have r0 := heap_cell (j := 0) hy2 rfl
            have r1 := heap_cell (j := 1) hy2 rfl
            have r2 := heap_cell (j := 2) hy2 rfl
            have r3 := heap_cell (j := 3) hy2 rfl
            have r4 := heap_cell (j := 4) hy2 rfl
            clear hy1 hy2
            go_wp2
            refine bodyPost_ret (v := .tuple #[.agg #[.int .i64 p.lev, .slice A1 p.kids.length c1, .slice A2 p.piv.length c2, .slice A3 left.length c3, .slice A4 p.prs.length c4], .agg #[.int .i64 0, .slice B1 kkids.length d1, .slice B2 kpiv.length d2, .slice B3 kb.length d3, .slice B4 kp.length d4], .int .i64 n]) (by simp [results, Try.results8, go_sem, *]) rfl ?_
            have HQ : refP c p at_ (⟨0, kkids, kpiv, kbuf, kprs⟩ : Nd) most = ⟨p.lev, p.kids, p.piv, left, p.prs⟩ ∧ refK c p at_ (⟨0, kkids, kpiv, kbuf, kprs⟩ : Nd) most = (⟨0, kkids, kpiv, kb, kp⟩ : Nd) ∧ refN c p at_ (⟨0, kkids, kpiv, kbuf, kprs⟩ : Nd) most = n := by
              have hff : refFold c p at_ (⟨0, kkids, kpiv, kbuf, kprs⟩ : Nd) most p.buf = (left, n, kb, kp) := HFF.out.symm
              refine ⟨?_, ?_, ?_⟩
              · unfold refP; rw [if_neg HEA.out, hff]
              · unfold refK; rw [if_neg HEA.out, hff]
              · unfold refN; rw [if_neg HEA.out, hff]
            exact ⟨_, _, by rw [HQ.2.2], by rw [HQ.1]; exact fin_made HP.out HDR.out HC1.out HC2.out (by omega) (by omega), by rw [HQ.2.1]; exact fin_made HK.out HDR.out HC1.out HC2.out (by omega) (by omega), HE.out⟩
      · obtain ⟨-, -, ⟨B1, d1, B2, d2, B3, d3, B4, d4, hk⟩, -, -, -, -⟩ := HPW.out
        have k3' : wc.cell? ⟨g + 1 + 1, 3, none⟩ = some (.slice B3 kbuf.length d3) := heap_cell (j := 3) hk.at_ rfl
        have q4' := HPW.out.conf.2.2.2.2.1
        clear hk
        have HPR := Lib.hid (HPW.out.pr (.cells #[] 45))
        have HO0 : Hid ((wc.alloc (.cells #[] 45)).ownsRow (g + 5) 45 3 (.slice (some ⟨wc.heap.size, 0, none⟩) 0 0) 0 []) := Lib.hid (World.ownsRow_made wc #[] 0 HPW.out.size (Nat.zero_le _) (by simp))
        clear HPW
        go_wp2_with fail
        clear k3' q4'
        go_loopw [14, 15, 16] (fun u l i wx => ∃ (j gl cl n : Nat) (left kb : List Msg) (kp : List Pr), j ≤ p.buf.length ∧ i = .int .i64 (j : Nat) ∧ u = .int .i64 (n : Nat) ∧ l = .slice (some ⟨gl, 0, none⟩) left.length cl ∧ Hid ((left, n, kb, kp) = (p.buf.take j).foldl (refStep p at_ klev (c.buffer - (kbuf.length : Int)) most) ([], 0, kbuf, kprs)) ∧ Hid (RInv (⟨klev, kkids, kpiv, kbuf, kprs⟩ : Nd) j (left, n, kb, kp)) ∧ Hid (wx.ownsRow (g + 5) 45 3 (.slice (some ⟨gl, 0, none⟩) left.length cl) left.length (left.flatMap encM)) ∧ Hid (PR c p (⟨klev, kkids, kpiv, kb, kp⟩ : Nd) w wx g gl)) (fun _ _ i _ => p.buf.length - nv i)
        case atStart => exact ⟨0, _, 0, 0, [], kbuf, kprs, Nat.zero_le _, rfl, rfl, rfl, Lib.hid rfl, Lib.hid ⟨Nat.le_refl _, Nat.le_refl _, Nat.le_refl _, Nat.le_refl _, HB.out, HH.out.rk⟩, HO0, HPR⟩
        clear HPR HO0
        case round =>
          obtain ⟨j, gl, cl, n, left, kb, kp, hj, rfl, rfl, rfl, HE, HI, HO, HPR⟩ := hrel
          obtain ⟨il, inn, ibl, ipl, -, -⟩ := HI.out
          simp only at il inn ibl ipl
          have hbb : kbuf.length ≤ 200000 := HH.out.bb
          have hbk : kprs.length ≤ 200000 := HH.out.bk
          have hbp := HH.out.bp
          by_cases hlt : j < p.buf.length
          · obtain ⟨A1, c1, A2, c2, A3, c3, A4, c4, hp, -, -, -, -⟩ := HPR.out.p.ex
            obtain ⟨b, off, rfl, hb, x0, x1, x2⟩ := hp.s3.1.msg j hlt
            have p3' := heap_cell (j := 3) hp.at_ rfl
            have HP2 := Lib.hid hp
            clear hp
            have HSN : Hid ((p.buf.take (j + 1)).foldl (refStep p at_ klev (c.buffer - (kbuf.length : Int)) most) ([], 0, kbuf, kprs) = refStep p at_ klev (c.buffer - (kbuf.length : Int)) most (left, n, kb, kp) p.buf[j]) := Lib.hid (by rw [List.take_succ_eq_append_getElem hlt, List.foldl_append, ← HE.out]; rfl)
            have HIN : Hid (RInv (⟨klev, kkids, kpiv, kbuf, kprs⟩ : Nd) (j + 1) (refStep p at_ klev (c.buffer - (kbuf.length : Int)) most (left, n, kb, kp) p.buf[j])) := Lib.hid (HI.out.step p at_ klev (c.buffer - (kbuf.length : Int)) most p.buf[j])
            generalize p.buf[j] = m at x0 x1 x2 HSN HIN
            obtain ⟨key, del, val⟩ := m
            simp only at x0 x1 x2
            go_upto_region 10 with fail
            have HM := Lib.hid (heap_alloc_new wr (.cells #[.string key.1, .bool del, .string val.1] 45))
            have HPA := Lib.hid (HPR.out.move (Chg.alloc wr (.cells #[.string key.1, .bool del, .string val.1] 45)))
            have HOA := Lib.hid (own_still HO.out (Chg.alloc wr (.cells #[.string key.1, .bool del, .string val.1] 45)))
            clear x0 x1 x2 p3' HP2 HPR HO
            generalize wr.alloc (.cells #[.string key.1, .bool del, .string val.1] 45) = wa at *
            generalize wr.heap.size = gm at *
            go_cut [77] from 56 to 76 (fun v wx => v = .bool (decide ((wayN p.piv key : Int) ≠ at_ ∨ most ≤ (n : Int) ∨ (0 < (klev : Int) ∧ c.buffer - (kbuf.length : Int) ≤ (n : Int)))) ∧ wx.heap[gm]? = some (.cells #[.string key.1, .bool del, .string val.1] 45) ∧ wx.ownsRow (g + 5) 45 3 (.slice (some ⟨gl, 0, none⟩) left.length cl) left.length (left.flatMap encM) ∧ PR c p (⟨klev, kkids, kpiv, kb, kp⟩ : Nd) w wx g gl)
            case first =>
              obtain ⟨A1, c1, A2, c2, A3', c3', A4, c4, hp, -, -, -, -⟩ := HPA.out.p.ex
              have p2' := heap_cell (j := 2) hp.at_ rfl
              have l0 := heap_cell (j := 0) HM.out rfl
              go_wp2_with fail
              refine (way hp.s2.1 key).mono ?_
              rintro e w2 ⟨rfl, hs⟩
              have HM2 := Lib.hid (hs.heap HM.out id)
              have HP2 := Lib.hid (HPA.out.move hs)
              have HO2 := Lib.hid (own_still HOA.out hs)
              have hwl := wayN_le p.piv key
              clear hs hp p2' l0
              obtain ⟨B1, d1, B2, d2, B3, d3, B4, d4, hk, -, -, -, -⟩ := HP2.out.k.ex
              have k0' : w2.cell? ⟨g + 1 + 1, 0, none⟩ = some (.int .i64 klev) := heap_cell (j := 0) hk.at_ rfl
              clear hk
              have hDD : ∀ b : Bool, Hid (decide ((wayN p.piv key : Int) ≠ at_ ∨ most ≤ (n : Int) ∨ (0 < (klev : Int) ∧ c.buffer - (kbuf.length : Int) ≤ (n : Int))) = b) → .bool b = Value.bool (decide ((wayN p.piv key : Int) ≠ at_ ∨ most ≤ (n : Int) ∨ (0 < (klev : Int) ∧ c.buffer - (kbuf.length : Int) ≤ (n : Int)))) ∧ w2.heap[gm]? = some (.cells #[.string key.1, .bool del, .string val.1] 45) ∧ w2.ownsRow (g + 5) 45 3 (.slice (some ⟨gl, 0, none⟩) left.length cl) left.length (left.flatMap encM) ∧ PR c p (⟨klev, kkids, kpiv, kb, kp⟩ : Nd) w w2 g gl := fun b h => ⟨by rw [h.out], HM2.out, HO2.out, HP2.out⟩
              have HDD := Lib.hid hDD
              clear hDD HP2 HO2 HM2
              by_cases e1 : (wayN p.piv key : Int) = at_
              case neg =>
                have HT : Hid (decide ((wayN p.piv key : Int) ≠ at_ ∨ most ≤ (n : Int) ∨ (0 < (klev : Int) ∧ c.buffer - (kbuf.length : Int) ≤ (n : Int))) = true) := Lib.hid (decide_eq_true (.inl e1))
                have e2 : ((wayN p.piv key : Int) == at_) = false := beq_eq_false_iff_ne.2 e1
                have e3 : ((wayN p.piv key : Int) != at_) = true := by rw [bne, e2]; rfl
                go_wp2
                go_meet
                exact HDD.out _ HT
              have e2 : ((wayN p.piv key : Int) == at_) = true := beq_iff_eq.2 e1
              have e3 : ((wayN p.piv key : Int) != at_) = false := by rw [bne, e2]; rfl
              have HE1 := Lib.hid e1
              clear e1 e2
              by_cases e4 : most ≤ (n : Int)
              · have HT : Hid (decide ((wayN p.piv key : Int) ≠ at_ ∨ most ≤ (n : Int) ∨ (0 < (klev : Int) ∧ c.buffer - (kbuf.length : Int) ≤ (n : Int))) = true) := Lib.hid (decide_eq_true (.inr (.inl e4)))
                go_wp2
                go_meet
                exact HDD.out _ HT
              by_cases e5 : c.buffer - (kbuf.length : Int) ≤ (n : Int)
              · have HT : Hid (decide ((wayN p.piv key : Int) ≠ at_ ∨ most ≤ (n : Int) ∨ (0 < (klev : Int) ∧ c.buffer - (kbuf.length : Int) ≤ (n : Int))) = true) := Lib.hid (decide_eq_true (.inr (.inr ⟨hl, e5⟩)))
                go_wp2
                go_meet
                exact HDD.out _ HT
              · have HT : Hid (decide ((wayN p.piv key : Int) ≠ at_ ∨ most ≤ (n : Int) ∨ (0 < (klev : Int) ∧ c.buffer - (kbuf.length : Int) ≤ (n : Int))) = false) := Lib.hid (decide_eq_false (by rintro (h | h | ⟨-, h⟩); exact h HE1.out; exact e4 h; exact e5 h))
                go_wp2
                go_meet
                exact HDD.out _ (Lib.hid (HT.out.trans (by rw [decide_eq_false (show ¬ most ≤ (n : Int) by omega), decide_eq_false (show ¬ c.buffer - (kbuf.length : Int) ≤ (n : Int) by omega)]; rfl)))
            clear HPA HOA HM
            case rest =>
              obtain ⟨hv, hm, ho, hpr⟩ := hcut
              have HM := Lib.hid hm
              have HO := Lib.hid ho
              have HPR := Lib.hid hpr
              clear hm ho hpr
              have l0 := heap_cell (j := 0) HM.out rfl
              have l1 := heap_cell (j := 1) HM.out rfl
              have l2 := heap_cell (j := 2) HM.out rfl
              cases hd : decide ((wayN p.piv key : Int) ≠ at_ ∨ most ≤ (n : Int) ∨ (0 < (klev : Int) ∧ c.buffer - (kbuf.length : Int) ≤ (n : Int))) with
              | true =>
                rw [hd] at hv
                subst hv
                have HST : Hid (refStep p at_ klev (c.buffer - (kbuf.length : Int)) most (left, n, kb, kp) ⟨key, del, val⟩ = (left ++ [⟨key, del, val⟩], n, kb, kp)) := Lib.hid (if_pos (of_decide_eq_true hd))
                clear hd
                go_wp2_with (at_builtin; refine wpList_append_at (enc := encM) rfl _ _ 26 rfl (g + 5) 45 i0 (.agg #[.string ⟨#[]⟩, .bool false, .string ⟨#[]⟩]) 3 40 under26_ HI0.out hz0 hz1 hz2 rfl (by decide) lenM gl cl left.length (left.flatMap encM) rfl (own_still HO.out (Chg.alloc _ _)) ⟨wc.heap.size, 0, none⟩ 1 1 [(⟨key, del, val⟩ : Msg)] rfl (one_sl lenM wc (⟨key, del, val⟩ : Msg) 45 #[.string key.1, .bool del, .string val.1] rfl) (oneM _) (by unfold maxLen; rw [List.length_singleton]; omega) (by rw [List.length_singleton]; omega) (Nat.le_trans HPR.out.size (Chg.alloc (S := fun _ => False) _ _).size) ?_)
                intro g' cap' w' hown hgr hgg
                have HO2 : Hid (w'.ownsRow (g + 5) 45 3 (.slice (some ⟨g', 0, none⟩) (left ++ [(⟨key, del, val⟩ : Msg)]).length cap') (left ++ [(⟨key, del, val⟩ : Msg)]).length ((left ++ [(⟨key, del, val⟩ : Msg)]).flatMap encM)) := Lib.hid (by rw [List.length_append, List.flatMap_append]; exact hown)
                have HPR2 := Lib.hid ((HPR.out.move (Chg.alloc wc (.cells #[.string key.1, .bool del, .string val.1] 45))).grown hgr (by rw [size_al]; exact hgg) (hown.lt g' rfl).2 hg)
                have HLL : Hid ((left ++ [(⟨key, del, val⟩ : Msg)]).length = left.length + 1) := Lib.hid (by rw [List.length_append, List.length_singleton])
                clear hown hgr hgg l0 l1 l2
                go_wp2
                go_roundw
                case rel => exact ⟨j + 1, g', cap', n, left ++ [⟨key, del, val⟩], kb, kp, by omega, by go_num, rfl, by rw [HLL.out], Lib.hid (by rw [HSN.out, HST.out]), Lib.hid (by rw [← HST.out]; exact HIN.out), HO2, HPR2⟩
                case measure => simp [nv]; omega
              | false =>
                rw [hd] at hv
                subst hv
                have HST : Hid (refStep p at_ klev (c.buffer - (kbuf.length : Int)) most (left, n, kb, kp) ⟨key, del, val⟩ = (left, n + 1, putM kb ⟨key, del, val⟩, kp)) := Lib.hid (by unfold refStep; rw [if_neg (of_decide_eq_false hd), if_neg (show ¬ klev = 0 by omega)])
                clear hd
                obtain ⟨B1, d1, B2, d2, B3, d3, B4, d4, hk, -, -, -, -⟩ := HPR.out.k.ex
                have HK := Lib.hid hk
                have k0' : wc.cell? ⟨g + 1 + 1, 0, none⟩ = some (.int .i64 klev) := heap_cell (j := 0) hk.at_ rfl
                have k3' : wc.cell? ⟨g + 1 + 1, 3, none⟩ = some (.slice B3 kb.length d3) := heap_cell (j := 3) hk.at_ rfl
                clear hk
                have HC : Hid (Calls Try.prog 23 #[.slice B3 kb.length d3, .agg #[.string key.1, .bool del, .string val.1]] wc (ConcatP (putM kb ⟨key, del, val⟩) wc)) := Lib.hid (put23 (⟨key, del, val⟩ : Msg) HK.out.s3.1 HI.out.br (by (try simp only); omega))
                have hA := Chg.refl (fun _ => False) wc
                obtain ⟨r, hr⟩ : ∃ r, r = putM kb ⟨key, del, val⟩ := ⟨_, rfl⟩
                rw [← hr] at HC HST
                have HR := Lib.hid hr
                have HA := Lib.hid hA
                clear hr hA
                go_wp2_with fail
                refine HC.out.mono ?_
                rintro e w4 ⟨v5, rfl, h5, hs⟩
                obtain ⟨X, cx, rfl, -, -⟩ := h5.1.form
                have H5 := Lib.hid (h5.outO (Nat.le_trans HPR.out.size HA.out.size))
                have H5o := Lib.hid (h5.off (Nat.lt_of_lt_of_le HPR.out.row.2 HA.out.size))
                have HPR4 := Lib.hid (HPR.out.move (HA.out.trans hs))
                have HO4 := Lib.hid (own_still HO.out (HA.out.trans hs))
                clear h5 hs HC HPR HO HK HM l0 l1 l2 k0' k3'
                have HPR5 := Lib.hid (HPR4.out.setKb hg H5.out H5o.out)
                have hcs : Chg (fun i => i = g + 1 + 1) w4 (w4.setCell ⟨g + 1 + 1, 3, none⟩ (.slice X r.length cx)) := Chg.setCell w4 _ _ rfl
                have HO5 := Lib.hid (hcs.own HO4.out (fun k hk => by simp only [Value.ownBlock, Option.some.injEq] at hk; have := HPR4.out.row.1; omega))
                obtain ⟨B1', d1', B2', d2', B3', d3', B4', d4', hk, -, -, -, -⟩ := HPR4.out.k.ex
                have k4' := heap_cell (j := 3) hk.at_ rfl
                have f4' := heap_free (j := 3) hk.at_
                clear hk hcs
                generalize hw5 : w4.setCell ⟨g + 1 + 1, 3, none⟩ (.slice X r.length cx) = w5 at *
                have HW5 := Lib.hid hw5
                clear hw5
                go_wp2_with fail
                rw [HW5.out]
                clear k4' f4'
                go_roundw
                case rel => exact ⟨j + 1, gl, cl, n + 1, left, r, kp, by omega, by go_num, by go_num, rfl, Lib.hid (by rw [HSN.out, HST.out]), Lib.hid (by rw [← HST.out]; exact HIN.out), HO5, HPR5⟩
                case measure => simp [nv]; omega
          · have HFF : Hid ((left, n, kb, kp) = p.buf.foldl (refStep p at_ klev (c.buffer - (kbuf.length : Int)) most) ([], 0, kbuf, kprs)) := Lib.hid (by rw [HE.out, List.take_of_length_le (by omega)])
            clear HE
            have HSL := Lib.hid ((own_slf lenM (by decide) HO.out (Nat.le_refl _)).outO (Nat.le_refl _))
            have HPW5 := Lib.hid (HPR.out.pw.setP hg HSL.out)
            obtain ⟨A1, c1, A2, c2, A3, c3, A4, c4, hp, -, -, -, -⟩ := HPR.out.p.ex
            have p3' := heap_cell (j := 3) hp.at_ rfl
            have f3' := heap_free (j := 3) hp.at_
            clear hp
            generalize hw5 : wr.setCell ⟨g + 1, 3, none⟩ (.slice (some ⟨gl, 0, none⟩) left.length cl) = w5 at *
            have HW5 := Lib.hid hw5
            clear hw5
            go_upto_region 17 with fail
            rw [HW5.out]
            clear p3' f3' HW5 HPR HO HSL
            obtain ⟨-, ⟨A1, c1, A2, c2, A3, c3, A4, c4, hp⟩, ⟨B1, d1, B2, d2, B3, d3, B4, d4, hk⟩, z1, z2, hst, hsz⟩ := HPW5.out
            have HP := Lib.hid hp
            have HK := Lib.hid hk
            have HZ1 := Lib.hid z1
            have HZ2 := Lib.hid z2
            have HSZ := Lib.hid hsz
            have hpD := hp.at_
            have hkD := hk.at_
            unfold ZeroN at z1 z2 HZ1 HZ2
            have hD := Chg.drew (S := fun _ => False) w5
            have hp' := hD.heap hpD id
            have hk' := hD.heap hkD id
            have H0 := Lib.hid (And.intro (heap_cell (j := 0) hp' rfl) (And.intro (heap_cell (j := 1) hp' rfl) (And.intro (heap_cell (j := 2) hp' rfl) (And.intro (heap_cell (j := 3) hp' rfl) (And.intro (heap_cell (j := 4) hp' rfl) (And.intro (heap_cell (j := 0) hk' rfl) (And.intro (heap_cell (j := 1) hk' rfl) (And.intro (heap_cell (j := 2) hk' rfl) (And.intro (heap_cell (j := 3) hk' rfl) (And.intro (heap_cell (j := 4) hk' rfl) (hst.trans hD)))))))))))
            clear hpD hkD hD hp' hk' hp hk z1 z2 hst hsz
            refine wp_region_held_drew (S := fun w' => w'.cell? ⟨g + 1, 0, none⟩ = some (.int .i64 p.lev) ∧ w'.cell? ⟨g + 1, 1, none⟩ = some (.slice A1 p.kids.length c1) ∧ w'.cell? ⟨g + 1, 2, none⟩ = some (.slice A2 p.piv.length c2) ∧ w'.cell? ⟨g + 1, 3, none⟩ = some (.slice A3 left.length c3) ∧ w'.cell? ⟨g + 1, 4, none⟩ = some (.slice A4 p.prs.length c4) ∧ w'.cell? ⟨g + 1 + 1, 0, none⟩ = some (.int .i64 klev) ∧ w'.cell? ⟨g + 1 + 1, 1, none⟩ = some (.slice B1 kkids.length d1) ∧ w'.cell? ⟨g + 1 + 1, 2, none⟩ = some (.slice B2 kpiv.length d2) ∧ w'.cell? ⟨g + 1 + 1, 3, none⟩ = some (.slice B3 kb.length d3) ∧ w'.cell? ⟨g + 1 + 1, 4, none⟩ = some (.slice B4 kp.length d4) ∧ Still w w') (by kernel_rfl) H0.out (fun hHeld => ?_)
            refine wpAnyH_take (i := 0) (oi := { dst := some 100, op := _, type := _, pos := _, after := _, guard := _ }) (v := ?_) rfl (by kernel_rfl) (by kernel_rfl) (by kernel_rfl) (fun _ _ _ h => h) (Or.inl ⟨by rfl, ?_⟩) (by assumption) ?_
            case refine_2 => intro w hSw; (try dsimp only at hSw); go_simp; all_goals (with_reducible rfl)
            try simp only [Act.put, List.setIfInBounds_toArray, List.set_cons_zero, List.set_cons_succ]
            refine wpAnyH_take (i := 1) (oi := { dst := some 101, op := _, type := _, pos := _, after := _, guard := _ }) (v := ?_) rfl (by kernel_rfl) (by kernel_rfl) (by kernel_rfl) (fun _ _ _ h => h) (Or.inl ⟨by rfl, ?_⟩) (by assumption) ?_
            case refine_2 => intro w hSw; (try dsimp only at hSw); go_simp; all_goals (with_reducible rfl)
            try simp only [Act.put, List.setIfInBounds_toArray, List.set_cons_zero, List.set_cons_succ]
            refine wpAnyH_take (i := 2) (oi := { dst := some 102, op := _, type := _, pos := _, after := _, guard := _ }) (v := ?_) rfl (by kernel_rfl) (by kernel_rfl) (by kernel_rfl) (fun _ _ _ h => h) (Or.inl ⟨by rfl, ?_⟩) (by assumption) ?_
            case refine_2 => intro w hSw; (try dsimp only at hSw); go_simp; all_goals (with_reducible rfl)
            try simp only [Act.put, List.setIfInBounds_toArray, List.set_cons_zero, List.set_cons_succ]
            have HDR := Lib.hid (Chg.drew (S := fun _ => False) w5)
            generalize w5.drew = wd at *
            have hx1 := HDR.out.heap HZ1.out id
            have q0 := heap_cell (j := 0) hx1 rfl
            have q1 := heap_cell (j := 1) hx1 rfl
            have q2 := heap_cell (j := 2) hx1 rfl
            have q3 := heap_cell (j := 3) hx1 rfl
            have q4 := heap_cell (j := 4) hx1 rfl
            have f0 := heap_free (j := 0) hx1
            have f1 := heap_free (j := 1) hx1
            have f2 := heap_free (j := 2) hx1
            have f3 := heap_free (j := 3) hx1
            have f4 := heap_free (j := 4) hx1
            clear hx1
            refine wpAnyH_ready (rs := [3]) (by kernel_rfl) (by simp) ?_
            refine AllReadyH.cons (o := { dst := none, op := _, type := _, pos := _, after := _, guard := _ }) rfl (fun K hK => ?_) AllReadyH.nil
            go_simp
            refine hK.out _ _ (keep10 hHeld (set5 (w := wd) (g + 1 + 1 + 1) (.int .i64 p.lev) (.slice A1 p.kids.length c1) (.slice A2 p.piv.length c2) (.slice A3 left.length c3) (.slice A4 p.prs.length c4)) (by omega) (by omega) (by omega)) (fun hHeld => ?_)
            clear hK K
            try simp only [Act.put, List.setIfInBounds_toArray, List.set_cons_zero, List.set_cons_succ]
            clear q0 q1 q2 q3 q4 f0 f1 f2 f3 f4
            have HY1 := Lib.hid (set5_heap (HDR.out.heap HZ1.out id) (.int .i64 p.lev) (.slice A1 p.kids.length c1) (.slice A2 p.piv.length c2) (.slice A3 left.length c3) (.slice A4 p.prs.length c4))
            have HC1 := Lib.hid (set5 (w := wd) (g + 1 + 1 + 1) (.int .i64 p.lev) (.slice A1 p.kids.length c1) (.slice A2 p.piv.length c2) (.slice A3 left.length c3) (.slice A4 p.prs.length c4))
            generalize (((((wd.setCell ⟨g + 1 + 1 + 1, 0, none⟩ (.int .i64 p.lev)).setCell ⟨g + 1 + 1 + 1, 1, none⟩ (.slice A1 p.kids.length c1)).setCell ⟨g + 1 + 1 + 1, 2, none⟩ (.slice A2 p.piv.length c2)).setCell ⟨g + 1 + 1 + 1, 3, none⟩ (.slice A3 left.length c3)).setCell ⟨g + 1 + 1 + 1, 4, none⟩ (.slice A4 p.prs.length c4)) = wa at *
            have hx2 := HC1.out.heap (HDR.out.heap HZ2.out id) (show ¬ g + 1 + 1 + 1 + 1 = g + 1 + 1 + 1 by omega)
            have q0 := heap_cell (j := 0) hx2 rfl
            have q1 := heap_cell (j := 1) hx2 rfl
            have q2 := heap_cell (j := 2) hx2 rfl
            have q3 := heap_cell (j := 3) hx2 rfl
            have q4 := heap_cell (j := 4) hx2 rfl
            have f0 := heap_free (j := 0) hx2
            have f1 := heap_free (j := 1) hx2
            have f2 := heap_free (j := 2) hx2
            have f3 := heap_free (j := 3) hx2
            have f4 := heap_free (j := 4) hx2
            clear hx2
            refine wpAnyH_ready (rs := [4]) (by kernel_rfl) (by simp) ?_
            refine AllReadyH.cons (o := { dst := none, op := _, type := _, pos := _, after := _, guard := _ }) rfl (fun K hK => ?_) AllReadyH.nil
            go_simp
            refine hK.out _ _ (keep10 hHeld (set5 (w := wa) (g + 1 + 1 + 1 + 1) (.int .i64 klev) (.slice B1 kkids.length d1) (.slice B2 kpiv.length d2) (.slice B3 kb.length d3) (.slice B4 kp.length d4)) (by omega) (by omega) (by omega)) (fun hHeld => ?_)
            clear hK K
            try simp only [Act.put, List.setIfInBounds_toArray, List.set_cons_zero, List.set_cons_succ]
            clear q0 q1 q2 q3 q4 f0 f1 f2 f3 f4
            have HY2 := Lib.hid (set5_heap (HC1.out.heap (HDR.out.heap HZ2.out id) (show ¬ g + 1 + 1 + 1 + 1 = g + 1 + 1 + 1 by omega)) (.int .i64 klev) (.slice B1 kkids.length d1) (.slice B2 kpiv.length d2) (.slice B3 kb.length d3) (.slice B4 kp.length d4))
            have HC2 := Lib.hid (set5 (w := wa) (g + 1 + 1 + 1 + 1) (.int .i64 klev) (.slice B1 kkids.length d1) (.slice B2 kpiv.length d2) (.slice B3 kb.length d3) (.slice B4 kp.length d4))
            generalize (((((wa.setCell ⟨g + 1 + 1 + 1 + 1, 0, none⟩ (.int .i64 klev)).setCell ⟨g + 1 + 1 + 1 + 1, 1, none⟩ (.slice B1 kkids.length d1)).setCell ⟨g + 1 + 1 + 1 + 1, 2, none⟩ (.slice B2 kpiv.length d2)).setCell ⟨g + 1 + 1 + 1 + 1, 3, none⟩ (.slice B3 kb.length d3)).setCell ⟨g + 1 + 1 + 1 + 1, 4, none⟩ (.slice B4 kp.length d4)) = wb at *
            refine wpAnyH_take (i := 5) (oi := { dst := some 12, op := _, type := _, pos := _, after := _, guard := _ }) (v := ?_) rfl (by kernel_rfl) (by kernel_rfl) (by kernel_rfl) (fun _ _ _ h => h) (Or.inl ⟨by rfl, ?_⟩) (by assumption) ?_
            case refine_2 => intro w hSw; (try dsimp only at hSw); go_simp; all_goals (with_reducible rfl)
            try simp only [Act.put, List.setIfInBounds_toArray, List.set_cons_zero, List.set_cons_succ]
            refine wpAnyH_done (by kernel_rfl) ?_ _
            have HE := Lib.hid hHeld.2.2.2.2.2.2.2.2.2.2
            clear hHeld
            have hy1 := HC2.out.heap HY1.out (show ¬ g + 1 + 1 + 1 = g + 1 + 1 + 1 + 1 by omega)
            have hy2 := HY2.out
            have q0 := heap_cell (j := 0) hy1 rfl
            have q1 := heap_cell (j := 1) hy1 rfl
            have q2 := heap_cell (j := 2) hy1 rfl
            have q3 := heap_cell (j := 3) hy1 rfl
            have q4 := heap_cell (j := 4) hy1 rfl
            have r0 := heap_cell (j := 0) hy2 rfl
            have r1 := heap_cell (j := 1) hy2 rfl
            have r2 := heap_cell (j := 2) hy2 rfl
            have r3 := heap_cell (j := 3) hy2 rfl
            have r4 := heap_cell (j := 4) hy2 rfl
            clear hy1 hy2
            go_wp2
            refine bodyPost_ret (v := .tuple #[.agg #[.int .i64 p.lev, .slice A1 p.kids.length c1, .slice A2 p.piv.length c2, .slice A3 left.length c3, .slice A4 p.prs.length c4], .agg #[.int .i64 klev, .slice B1 kkids.length d1, .slice B2 kpiv.length d2, .slice B3 kb.length d3, .slice B4 kp.length d4], .int .i64 n]) (by simp [results, Try.results8, go_sem, *]) rfl ?_
            have HQ : refP c p at_ (⟨klev, kkids, kpiv, kbuf, kprs⟩ : Nd) most = ⟨p.lev, p.kids, p.piv, left, p.prs⟩ ∧ refK c p at_ (⟨klev, kkids, kpiv, kbuf, kprs⟩ : Nd) most = (⟨klev, kkids, kpiv, kb, kp⟩ : Nd) ∧ refN c p at_ (⟨klev, kkids, kpiv, kbuf, kprs⟩ : Nd) most = n := by
              have hff : refFold c p at_ (⟨klev, kkids, kpiv, kbuf, kprs⟩ : Nd) most p.buf = (left, n, kb, kp) := HFF.out.symm
              refine ⟨?_, ?_, ?_⟩
              · unfold refP; rw [if_neg HEA.out, hff]
              · unfold refK; rw [if_neg HEA.out, hff]
              · unfold refN; rw [if_neg HEA.out, hff]
            exact ⟨_, _, by rw [HQ.2.2], by rw [HQ.1]; exact fin_made HP.out HDR.out HC1.out HC2.out (by omega) (by omega), by rw [HQ.2.1]; exact fin_made HK.out HDR.out HC1.out HC2.out (by omega) (by omega), HE.out⟩
end Go.Proofs.Ytekoibglogoaaaa
