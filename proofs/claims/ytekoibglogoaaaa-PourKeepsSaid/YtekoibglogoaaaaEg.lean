/- The law: which messages go to a kid, as the document says. -/
import Derived.Test.YtekoibglogoaaaaPq
import Derived.Deep.CutBlock
namespace Go.Proofs.Ytekoibglogoaaaa
open Go Go.RowKit Go.Shelf
set_option linter.unusedVariables false
set_option linter.unusedSimpArgs false

set_option maxRecDepth 100000 in
set_option maxHeartbeats 8000000 in
theorem moves3 {c : Conf} {p k : Nd} {at_ most : Int} (ha : -9223372036854775808 ≤ at_ ∧ at_ ≤ 9223372036854775807) (hm : -9223372036854775808 ≤ most ∧ most ≤ 9223372036854775807) {w : World} {vp vk : Value} (hp : NodeV w vp p) (hk : NodeV w vk k) :
    Calls Try.prog 3 #[.agg c.vs, vp, .int .i64 at_, vk, .int .i64 most] w fun e w' => e = .returned (.bool true) ∧ Still w w' := by
  have HVP : Hid (∀ w', Still w w' → NodeV w' vp p) := Lib.hid (fun w' hs => hp.still hs)
  have HVK : Hid (∀ w', Still w w' → NodeV w' vk k) := Lib.hid (fun w' hs => hk.still hs)
  have H5 : Hid (∀ w', Still w w' → Calls Try.prog 5 #[.agg c.vs, vp, .int .i64 at_, vk] w' (GuardP (RightAll c p at_ k) w')) := Lib.hid (fun w' hs => right5 (hp.still hs) (hk.still hs))
  have H7 : Hid (∀ w', Still w w' → RightAll c p at_ k → Calls Try.prog 7 #[.agg c.vs, vp, .int .i64 at_, vk, .int .i64 most] w' (PourP (pourP c p at_ k most) (pourK c p at_ k most) (takenP c p at_ k most).length w')) := Lib.hid (fun w' hs h => pour7 (h.pourH ha hm) (hp.still hs) (hk.still hs))
  have H8 : Hid (∀ w', Still w w' → RightAll c p at_ k → Calls Try.prog 8 #[.agg c.vs, vp, .int .i64 at_, vk, .int .i64 most] w' (PourP (pourP c p at_ k most) (pourK c p at_ k most) (takenP c p at_ k most).length w')) := Lib.hid (fun w' hs h => by
    obtain ⟨e1, e2, e3⟩ := pour_same (most := most) h
    rw [← e1, ← e2, ← e3]
    exact pour8 (h.refH ha hm) h.rk.lists.2.1 (hp.still hs) (hk.still hs))
  obtain ⟨p1, p2, p3, p4, rfl, hp1, hp2, hp3, hp4⟩ := hp
  obtain ⟨k1', k2', k3', k4', rfl, hk1, hk2, hk3, hk4⟩ := hk
  have HPV := Lib.hid hp2
  obtain ⟨P1, e1, rfl, -, -⟩ := hp1.form
  obtain ⟨P2, e2, rfl, -, -⟩ := hp2.form
  obtain ⟨P3, e3, rfl, -, -⟩ := hp3.form
  obtain ⟨P4, e4, rfl, -, -⟩ := hp4.form
  obtain ⟨Q1, f1, rfl, -, -⟩ := hk1.form
  obtain ⟨Q2, f2, rfl, -, -⟩ := hk2.form
  obtain ⟨Q3, f3, rfl, -, -⟩ := hk3.form
  obtain ⟨Q4, f4, rfl, -, -⟩ := hk4.form
  clear hp1 hp2 hp3 hp4 hk1 hk2 hk3 hk4
  have hG := alloc3h w (.cells #[.int .i64 c.blocks, .int .i64 c.bytes, .int .i64 c.frames, .int .i64 c.fan, .int .i64 c.buffer, .int .i64 c.leaf, .int .i64 c.key, .int .i64 c.val] 23) (.cells #[.int .i64 p.lev, .slice P1 p.kids.length e1, .slice P2 p.piv.length e2, .slice P3 p.buf.length e3, .slice P4 p.prs.length e4] 29) (.cells #[.int .i64 k.lev, .slice Q1 k.kids.length f1, .slice Q2 k.piv.length f2, .slice Q3 k.buf.length f3, .slice Q4 k.prs.length f4] 29)
  have HG := Lib.hid hG
  have HS0 := Lib.hid (((Chg.alloc (S := fun _ => False) w (.cells #[.int .i64 c.blocks, .int .i64 c.bytes, .int .i64 c.frames, .int .i64 c.fan, .int .i64 c.buffer, .int .i64 c.leaf, .int .i64 c.key, .int .i64 c.val] 23)).allocs (.cells #[.int .i64 p.lev, .slice P1 p.kids.length e1, .slice P2 p.piv.length e2, .slice P3 p.buf.length e3, .slice P4 p.prs.length e4] 29)).allocs (.cells #[.int .i64 k.lev, .slice Q1 k.kids.length f1, .slice Q2 k.piv.length f2, .slice Q3 k.buf.length f3, .slice Q4 k.prs.length f4] 29))
  clear hG
  unfold Conf.vs at *
  go_enter Try.func3, Try.ntmps3
  go_upto_region 1 with fail
  generalize ((w.alloc (.cells #[.int .i64 c.blocks, .int .i64 c.bytes, .int .i64 c.frames, .int .i64 c.fan, .int .i64 c.buffer, .int .i64 c.leaf, .int .i64 c.key, .int .i64 c.val] 23)).alloc (.cells #[.int .i64 p.lev, .slice P1 p.kids.length e1, .slice P2 p.piv.length e2, .slice P3 p.buf.length e3, .slice P4 p.prs.length e4] 29)).alloc (.cells #[.int .i64 k.lev, .slice Q1 k.kids.length f1, .slice Q2 k.piv.length f2, .slice Q3 k.buf.length f3, .slice Q4 k.prs.length f4] 29) = w0 at *
  generalize w.heap.size = g at *
  have q0 := heap_cell (j := 0) HG.out.1 rfl
  have q1 := heap_cell (j := 1) HG.out.1 rfl
  have q2 := heap_cell (j := 2) HG.out.1 rfl
  have q3 := heap_cell (j := 3) HG.out.1 rfl
  have q4 := heap_cell (j := 4) HG.out.1 rfl
  have q5 := heap_cell (j := 5) HG.out.1 rfl
  have q6 := heap_cell (j := 6) HG.out.1 rfl
  have q7 := heap_cell (j := 7) HG.out.1 rfl
  have p0 := heap_cell (j := 0) HG.out.2.1 rfl
  have p1 := heap_cell (j := 1) HG.out.2.1 rfl
  have p2 := heap_cell (j := 2) HG.out.2.1 rfl
  have p3 := heap_cell (j := 3) HG.out.2.1 rfl
  have p4 := heap_cell (j := 4) HG.out.2.1 rfl
  have k0 := heap_cell (j := 0) HG.out.2.2 rfl
  have k1 := heap_cell (j := 1) HG.out.2.2 rfl
  have k2 := heap_cell (j := 2) HG.out.2.2 rfl
  have k3 := heap_cell (j := 3) HG.out.2.2 rfl
  have k4 := heap_cell (j := 4) HG.out.2.2 rfl
  go_wp2_with fail
  refine (H5.out _ HS0.out).mono ?_
  rintro e wa ⟨b1, rfl, hb1, hs⟩
  have HS1 := Lib.hid (HS0.out.trans hs)
  have HG1 := Lib.hid (And.intro (hs.heap HG.out.1 id) (And.intro (hs.heap HG.out.2.1 id) (hs.heap HG.out.2.2 id)))
  clear hs HG
  clear q0 q1 q2 q3 q4 q5 q6 q7 p0 p1 p2 p3 p4 k0 k1 k2 k3 k4
  cases b1 with
  | false =>
    go_wp2_with fail
    refine (awake6 _).mono ?_
    rintro e wb ⟨rfl, hs⟩
    have HS2 := Lib.hid (HS1.out.trans hs)
    clear hs
    go_wp2
    go_ret
    exact ⟨rfl, HS2.out⟩
  | true =>
    have HR := Lib.hid (hb1.out rfl)
    clear hb1
    have q0 := heap_cell (j := 0) HG1.out.1 rfl
    have q1 := heap_cell (j := 1) HG1.out.1 rfl
    have q2 := heap_cell (j := 2) HG1.out.1 rfl
    have q3 := heap_cell (j := 3) HG1.out.1 rfl
    have q4 := heap_cell (j := 4) HG1.out.1 rfl
    have q5 := heap_cell (j := 5) HG1.out.1 rfl
    have q6 := heap_cell (j := 6) HG1.out.1 rfl
    have q7 := heap_cell (j := 7) HG1.out.1 rfl
    have p0 := heap_cell (j := 0) HG1.out.2.1 rfl
    have p1 := heap_cell (j := 1) HG1.out.2.1 rfl
    have p2 := heap_cell (j := 2) HG1.out.2.1 rfl
    have p3 := heap_cell (j := 3) HG1.out.2.1 rfl
    have p4 := heap_cell (j := 4) HG1.out.2.1 rfl
    have k0 := heap_cell (j := 0) HG1.out.2.2 rfl
    have k1 := heap_cell (j := 1) HG1.out.2.2 rfl
    have k2 := heap_cell (j := 2) HG1.out.2.2 rfl
    have k3 := heap_cell (j := 3) HG1.out.2.2 rfl
    have k4 := heap_cell (j := 4) HG1.out.2.2 rfl
    have HC7 := Lib.hid (H7.out _ HS1.out HR.out)
    obtain ⟨q, hq⟩ : ∃ q, q = pourP c p at_ k most := ⟨_, rfl⟩
    obtain ⟨x, hx⟩ : ∃ x, x = pourK c p at_ k most := ⟨_, rfl⟩
    obtain ⟨n, hn⟩ : ∃ n, n = (takenP c p at_ k most).length := ⟨_, rfl⟩
    rw [← hq, ← hx, ← hn] at HC7
    have HQX := Lib.hid (And.intro hq (And.intro hx hn))
    clear hq hx hn
    go_wp2_with fail
    refine HC7.out.mono ?_
    rintro e wb ⟨v1, v2, rfl, hv1, hv2, hs⟩
    have HS2 := Lib.hid (HS1.out.trans hs)
    have HG2 := Lib.hid (And.intro (hs.heap HG1.out.1 id) (And.intro (hs.heap HG1.out.2.1 id) (hs.heap HG1.out.2.2 id)))
    clear hs HG1 HC7
    clear q0 q1 q2 q3 q4 q5 q6 q7 p0 p1 p2 p3 p4 k0 k1 k2 k3 k4
    have HV1 := Lib.hid hv1
    have HV2 := Lib.hid hv2
    obtain ⟨a1, a2, a3, a4, rfl, s1, s2, s3, s4⟩ := hv1
    obtain ⟨A1, c1, rfl, -, -⟩ := s1.form
    obtain ⟨A2, c2, rfl, -, -⟩ := s2.form
    obtain ⟨A3, c3, rfl, -, -⟩ := s3.form
    obtain ⟨A4, c4, rfl, -, -⟩ := s4.form
    obtain ⟨b1, b2, b3, b4, rfl, t1, t2, t3, t4⟩ := hv2
    obtain ⟨B1, d1, rfl, -, -⟩ := t1.form
    obtain ⟨B2, d2, rfl, -, -⟩ := t2.form
    obtain ⟨B3, d3, rfl, -, -⟩ := t3.form
    obtain ⟨B4, d4, rfl, -, -⟩ := t4.form
    clear s1 s2 s3 s4 t1 t2 t3 t4
    go_upto_region 4 with fail
    obtain ⟨z1, z2⟩ := alloc2_at wb (.cells #[.int .i64 q.lev, .slice A1 q.kids.length c1, .slice A2 q.piv.length c2, .slice A3 q.buf.length c3, .slice A4 q.prs.length c4] 29) (.cells #[.int .i64 x.lev, .slice B1 x.kids.length d1, .slice B2 x.piv.length d2, .slice B3 x.buf.length d3, .slice B4 x.prs.length d4] 29)
    have hs := (Chg.alloc (S := fun _ => False) wb (.cells #[.int .i64 q.lev, .slice A1 q.kids.length c1, .slice A2 q.piv.length c2, .slice A3 q.buf.length c3, .slice A4 q.prs.length c4] 29)).allocs (.cells #[.int .i64 x.lev, .slice B1 x.kids.length d1, .slice B2 x.piv.length d2, .slice B3 x.buf.length d3, .slice B4 x.prs.length d4] 29)
    have HZ := Lib.hid (And.intro z1 z2)
    have HS3 := Lib.hid (HS2.out.trans hs)
    have HG3 := Lib.hid (And.intro (hs.heap HG2.out.1 id) (And.intro (hs.heap HG2.out.2.1 id) (hs.heap HG2.out.2.2 id)))
    have HV1' := Lib.hid (HV1.out.still hs)
    have HV2' := Lib.hid (HV2.out.still hs)
    clear z1 z2 hs HG2 HV1 HV2
    generalize (wb.alloc (.cells #[.int .i64 q.lev, .slice A1 q.kids.length c1, .slice A2 q.piv.length c2, .slice A3 q.buf.length c3, .slice A4 q.prs.length c4] 29)).alloc (.cells #[.int .i64 x.lev, .slice B1 x.kids.length d1, .slice B2 x.piv.length d2, .slice B3 x.buf.length d3, .slice B4 x.prs.length d4] 29) = wc at *
    generalize wb.heap.size = gz at *
    have q0 := heap_cell (j := 0) HG3.out.1 rfl
    have q1 := heap_cell (j := 1) HG3.out.1 rfl
    have q2 := heap_cell (j := 2) HG3.out.1 rfl
    have q3 := heap_cell (j := 3) HG3.out.1 rfl
    have q4 := heap_cell (j := 4) HG3.out.1 rfl
    have q5 := heap_cell (j := 5) HG3.out.1 rfl
    have q6 := heap_cell (j := 6) HG3.out.1 rfl
    have q7 := heap_cell (j := 7) HG3.out.1 rfl
    have p0 := heap_cell (j := 0) HG3.out.2.1 rfl
    have p1 := heap_cell (j := 1) HG3.out.2.1 rfl
    have p2 := heap_cell (j := 2) HG3.out.2.1 rfl
    have p3 := heap_cell (j := 3) HG3.out.2.1 rfl
    have p4 := heap_cell (j := 4) HG3.out.2.1 rfl
    have k0 := heap_cell (j := 0) HG3.out.2.2 rfl
    have k1 := heap_cell (j := 1) HG3.out.2.2 rfl
    have k2 := heap_cell (j := 2) HG3.out.2.2 rfl
    have k3 := heap_cell (j := 3) HG3.out.2.2 rfl
    have k4 := heap_cell (j := 4) HG3.out.2.2 rfl
    have HC8 := Lib.hid (H8.out _ HS3.out HR.out)
    rw [← HQX.out.1, ← HQX.out.2.1, ← HQX.out.2.2] at HC8
    go_wp2_with fail
    refine HC8.out.mono ?_
    rintro e wd ⟨v1, v2, rfl, hv1, hv2, hs⟩
    have HS4 := Lib.hid (HS3.out.trans hs)
    have HZ4 := Lib.hid (And.intro (hs.heap HZ.out.1 id) (hs.heap HZ.out.2 id))
    have HV1b := Lib.hid (HV1'.out.still hs)
    have HV2b := Lib.hid (HV2'.out.still hs)
    clear hs HC8 HZ HV1' HV2' HG3
    clear q0 q1 q2 q3 q4 q5 q6 q7 p0 p1 p2 p3 p4 k0 k1 k2 k3 k4
    have HU1 := Lib.hid hv1
    have HU2 := Lib.hid hv2
    obtain ⟨a1, a2, a3, a4, rfl, s1, s2, s3, s4⟩ := hv1
    obtain ⟨F1, h1, rfl, -, -⟩ := s1.form
    obtain ⟨F2, h2, rfl, -, -⟩ := s2.form
    obtain ⟨F3, h3, rfl, -, -⟩ := s3.form
    obtain ⟨F4, h4, rfl, -, -⟩ := s4.form
    obtain ⟨b1, b2, b3, b4, rfl, t1, t2, t3, t4⟩ := hv2
    obtain ⟨G1, i1, rfl, -, -⟩ := t1.form
    obtain ⟨G2, i2, rfl, -, -⟩ := t2.form
    obtain ⟨G3, i3, rfl, -, -⟩ := t3.form
    obtain ⟨G4, i4, rfl, -, -⟩ := t4.form
    clear s1 s2 s3 s4 t1 t2 t3 t4
    go_upto_region 5 with fail
    obtain ⟨z1, z2⟩ := alloc2_at wd (.cells #[.int .i64 q.lev, .slice F1 q.kids.length h1, .slice F2 q.piv.length h2, .slice F3 q.buf.length h3, .slice F4 q.prs.length h4] 29) (.cells #[.int .i64 x.lev, .slice G1 x.kids.length i1, .slice G2 x.piv.length i2, .slice G3 x.buf.length i3, .slice G4 x.prs.length i4] 29)
    have hs := (Chg.alloc (S := fun _ => False) wd (.cells #[.int .i64 q.lev, .slice F1 q.kids.length h1, .slice F2 q.piv.length h2, .slice F3 q.buf.length h3, .slice F4 q.prs.length h4] 29)).allocs (.cells #[.int .i64 x.lev, .slice G1 x.kids.length i1, .slice G2 x.piv.length i2, .slice G3 x.buf.length i3, .slice G4 x.prs.length i4] 29)
    have HY := Lib.hid (And.intro z1 z2)
    have HS5 := Lib.hid (HS4.out.trans hs)
    have HZ5 := Lib.hid (And.intro (hs.heap HZ4.out.1 id) (hs.heap HZ4.out.2 id))
    have K1 := Lib.hid (same13 (HV1b.out.still hs) (HU1.out.still hs))
    have K2 : Hid (∀ w', Still wd w' → _) := Lib.hid (fun w' hs => same13 (HV2b.out.still hs) (HU2.out.still hs))
    have HSA := Lib.hid hs
    clear z1 z2 hs HZ4
    generalize (wd.alloc (.cells #[.int .i64 q.lev, .slice F1 q.kids.length h1, .slice F2 q.piv.length h2, .slice F3 q.buf.length h3, .slice F4 q.prs.length h4] 29)).alloc (.cells #[.int .i64 x.lev, .slice G1 x.kids.length i1, .slice G2 x.piv.length i2, .slice G3 x.buf.length i3, .slice G4 x.prs.length i4] 29) = we at *
    generalize wd.heap.size = gy at *
    have p0 := heap_cell (j := 0) HZ5.out.1 rfl
    have p1 := heap_cell (j := 1) HZ5.out.1 rfl
    have p2 := heap_cell (j := 2) HZ5.out.1 rfl
    have p3 := heap_cell (j := 3) HZ5.out.1 rfl
    have p4 := heap_cell (j := 4) HZ5.out.1 rfl
    have k0 := heap_cell (j := 0) HY.out.1 rfl
    have k1 := heap_cell (j := 1) HY.out.1 rfl
    have k2 := heap_cell (j := 2) HY.out.1 rfl
    have k3 := heap_cell (j := 3) HY.out.1 rfl
    have k4 := heap_cell (j := 4) HY.out.1 rfl
    go_wp2_with fail
    refine K1.out.mono ?_
    rintro e wf ⟨rfl, hs⟩
    have HS6 := Lib.hid (HS5.out.trans hs)
    have HSB := Lib.hid (HSA.out.trans hs)
    have hz2 := hs.heap HZ5.out.2 id
    have hy2 := hs.heap HY.out.2 id
    clear hs p0 p1 p2 p3 p4 k0 k1 k2 k3 k4
    have p0 := heap_cell (j := 0) hz2 rfl
    have p1 := heap_cell (j := 1) hz2 rfl
    have p2 := heap_cell (j := 2) hz2 rfl
    have p3 := heap_cell (j := 3) hz2 rfl
    have p4 := heap_cell (j := 4) hz2 rfl
    have k0 := heap_cell (j := 0) hy2 rfl
    have k1 := heap_cell (j := 1) hy2 rfl
    have k2 := heap_cell (j := 2) hy2 rfl
    have k3 := heap_cell (j := 3) hy2 rfl
    have k4 := heap_cell (j := 4) hy2 rfl
    clear hz2 hy2
    go_wp2_with fail
    refine (K2.out _ HSB.out).mono ?_
    rintro e wh ⟨rfl, hs⟩
    have HS7 := Lib.hid (HS6.out.trans hs)
    clear hs p0 p1 p2 p3 p4 k0 k1 k2 k3 k4
    have e0 : ((n : Int) == (n : Int)) = true := beq_self_eq_true _
    go_wp2_with fail
    refine (awake6 _).mono ?_
    rintro e wi ⟨rfl, hs⟩
    have HS8 := Lib.hid (HS7.out.trans hs)
    clear hs
    go_wp2
    go_ret
    exact ⟨rfl, HS8.out⟩
end Go.Proofs.Ytekoibglogoaaaa
