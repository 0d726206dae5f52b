/- The law: what is poured keeps the two nodes right, and no message is lost or made. -/
import Derived.Test.YtekoibglogoaaaaEg
import Derived.Test.YtekoibglogoaaaaPk
import Derived.Lib.MinMax
import Derived.Deep.CutBlock
namespace Go.Proofs.Ytekoibglogoaaaa
open Go Go.RowKit Go.Shelf
set_option linter.unusedVariables false
set_option linter.unusedSimpArgs false

set_option maxRecDepth 100000 in
set_option maxHeartbeats 8000000 in
theorem keeps4 {c : Conf} {p k : Nd} {at_ most : Int} (ha : -9223372036854775808 ≤ at_ ∧ at_ ≤ 9223372036854775807) (hm : -9223372036854775808 ≤ most ∧ most ≤ 9223372036854775807) {w : World} {vp vk : Value} (hp : NodeV w vp p) (hk : NodeV w vk k) :
    Calls Try.prog 4 #[.agg c.vs, vp, .int .i64 at_, vk, .int .i64 most] w fun e w' => e = .returned (.bool true) ∧ Still w w' := by
  have HVP : Hid (∀ w', Still w w' → NodeV w' vp p) := Lib.hid (fun w' hs => hp.still hs)
  have HVK : Hid (∀ w', Still w w' → NodeV w' vk k) := Lib.hid (fun w' hs => hk.still hs)
  have H5 : Hid (∀ w', Still w w' → Calls Try.prog 5 #[.agg c.vs, vp, .int .i64 at_, vk] w' (GuardP (RightAll c p at_ k) w')) := Lib.hid (fun w' hs => right5 (hp.still hs) (hk.still hs))
  have H7 : Hid (∀ w', Still w w' → RightAll c p at_ k → Calls Try.prog 7 #[.agg c.vs, vp, .int .i64 at_, vk, .int .i64 most] w' (PourP (pourP c p at_ k most) (pourK c p at_ k most) (takenP c p at_ k most).length w')) := Lib.hid (fun w' hs h => pour7 (h.pourH ha hm) (hp.still hs) (hk.still hs))
  have HK : Hid (RightAll c p at_ k → Keeps c p k (pourP c p at_ k most) (pourK c p at_ k most) at_ most (takenP c p at_ k most).length) := Lib.hid (fun h => h.keeps)
  obtain ⟨p1, p2, p3, p4, rfl, hp1, hp2, hp3, hp4⟩ := hp
  obtain ⟨k1', k2', k3', k4', rfl, hk1, hk2, hk3, hk4⟩ := hk
  have HPV := Lib.hid hp2
  obtain ⟨P1, e1, rfl, -, -⟩ := hp1.form
  obtain ⟨P2, e2, rfl, -, -⟩ := hp2.form
  obtain ⟨P3, e3, rfl, -, -⟩ := hp3.form
  obtain ⟨P4, e4, rfl, -, -⟩ := hp4.form
  obtain ⟨Q1, f1, rfl, -, -⟩ := hk1.form
  obtain ⟨Q2, f2, rfl, -, -⟩ := hk2.form
  obtain ⟨Q3, f3, rfl, -, -⟩ := hk3.form
  obtain ⟨Q4, f4, rfl, -, -⟩ := hk4.form
  clear hp1 hp2 hp3 hp4 hk1 hk2 hk3 hk4
  have hG := alloc3h w (.cells #[.int .i64 c.blocks, .int .i64 c.bytes, .int .i64 c.frames, .int .i64 c.fan, .int .i64 c.buffer, .int .i64 c.leaf, .int .i64 c.key, .int .i64 c.val] 23) (.cells #[.int .i64 p.lev, .slice P1 p.kids.length e1, .slice P2 p.piv.length e2, .slice P3 p.buf.length e3, .slice P4 p.prs.length e4] 29) (.cells #[.int .i64 k.lev, .slice Q1 k.kids.length f1, .slice Q2 k.piv.length f2, .slice Q3 k.buf.length f3, .slice Q4 k.prs.length f4] 29)
  have HG := Lib.hid hG
  have HS0 := Lib.hid (((Chg.alloc (S := fun _ => False) w (.cells #[.int .i64 c.blocks, .int .i64 c.bytes, .int .i64 c.frames, .int .i64 c.fan, .int .i64 c.buffer, .int .i64 c.leaf, .int .i64 c.key, .int .i64 c.val] 23)).allocs (.cells #[.int .i64 p.lev, .slice P1 p.kids.length e1, .slice P2 p.piv.length e2, .slice P3 p.buf.length e3, .slice P4 p.prs.length e4] 29)).allocs (.cells #[.int .i64 k.lev, .slice Q1 k.kids.length f1, .slice Q2 k.piv.length f2, .slice Q3 k.buf.length f3, .slice Q4 k.prs.length f4] 29))
  clear hG
  unfold Conf.vs at *
  go_enter Try.func4, Try.ntmps4
  go_upto_region 1 with fail
  generalize ((w.alloc (.cells #[.int .i64 c.blocks, .int .i64 c.bytes, .int .i64 c.frames, .int .i64 c.fan, .int .i64 c.buffer, .int .i64 c.leaf, .int .i64 c.key, .int .i64 c.val] 23)).alloc (.cells #[.int .i64 p.lev, .slice P1 p.kids.length e1, .slice P2 p.piv.length e2, .slice P3 p.buf.length e3, .slice P4 p.prs.length e4] 29)).alloc (.cells #[.int .i64 k.lev, .slice Q1 k.kids.length f1, .slice Q2 k.piv.length f2, .slice Q3 k.buf.length f3, .slice Q4 k.prs.length f4] 29) = w0 at *
  generalize w.heap.size = g at *
  have q0 := heap_cell (j := 0) HG.out.1 rfl
  have q1 := heap_cell (j := 1) HG.out.1 rfl
  have q2 := heap_cell (j := 2) HG.out.1 rfl
  have q3 := heap_cell (j := 3) HG.out.1 rfl
  have q4 := heap_cell (j := 4) HG.out.1 rfl
  have q5 := heap_cell (j := 5) HG.out.1 rfl
  have q6 := heap_cell (j := 6) HG.out.1 rfl
  have q7 := heap_cell (j := 7) HG.out.1 rfl
  have p0 := heap_cell (j := 0) HG.out.2.1 rfl
  have p1 := heap_cell (j := 1) HG.out.2.1 rfl
  have p2 := heap_cell (j := 2) HG.out.2.1 rfl
  have p3 := heap_cell (j := 3) HG.out.2.1 rfl
  have p4 := heap_cell (j := 4) HG.out.2.1 rfl
  have k0 := heap_cell (j := 0) HG.out.2.2 rfl
  have k1 := heap_cell (j := 1) HG.out.2.2 rfl
  have k2 := heap_cell (j := 2) HG.out.2.2 rfl
  have k3 := heap_cell (j := 3) HG.out.2.2 rfl
  have k4 := heap_cell (j := 4) HG.out.2.2 rfl
  go_wp2_with fail
  refine (H5.out _ HS0.out).mono ?_
  rintro e wa ⟨b1, rfl, hb1, hs⟩
  have HS1 := Lib.hid (HS0.out.trans hs)
  have HG1 := Lib.hid (And.intro (hs.heap HG.out.1 id) (And.intro (hs.heap HG.out.2.1 id) (hs.heap HG.out.2.2 id)))
  clear hs HG
  clear q0 q1 q2 q3 q4 q5 q6 q7 p0 p1 p2 p3 p4 k0 k1 k2 k3 k4
  cases b1 with
  | false =>
    go_wp2_with fail
    refine (awake6 _).mono ?_
    rintro e wb ⟨rfl, hs⟩
    have HS2 := Lib.hid (HS1.out.trans hs)
    clear hs
    go_wp2
    go_ret
    exact ⟨rfl, HS2.out⟩
  | true =>
    have HR := Lib.hid (hb1.out rfl)
    clear hb1
    have q0 := heap_cell (j := 0) HG1.out.1 rfl
    have q1 := heap_cell (j := 1) HG1.out.1 rfl
    have q2 := heap_cell (j := 2) HG1.out.1 rfl
    have q3 := heap_cell (j := 3) HG1.out.1 rfl
    have q4 := heap_cell (j := 4) HG1.out.1 rfl
    have q5 := heap_cell (j := 5) HG1.out.1 rfl
    have q6 := heap_cell (j := 6) HG1.out.1 rfl
    have q7 := heap_cell (j := 7) HG1.out.1 rfl
    have p0 := heap_cell (j := 0) HG1.out.2.1 rfl
    have p1 := heap_cell (j := 1) HG1.out.2.1 rfl
    have p2 := heap_cell (j := 2) HG1.out.2.1 rfl
    have p3 := heap_cell (j := 3) HG1.out.2.1 rfl
    have p4 := heap_cell (j := 4) HG1.out.2.1 rfl
    have k0 := heap_cell (j := 0) HG1.out.2.2 rfl
    have k1 := heap_cell (j := 1) HG1.out.2.2 rfl
    have k2 := heap_cell (j := 2) HG1.out.2.2 rfl
    have k3 := heap_cell (j := 3) HG1.out.2.2 rfl
    have k4 := heap_cell (j := 4) HG1.out.2.2 rfl
    have HC7 := Lib.hid (H7.out _ HS1.out HR.out)
    obtain ⟨q, hq⟩ : ∃ q, q = pourP c p at_ k most := ⟨_, rfl⟩
    obtain ⟨x, hx⟩ : ∃ x, x = pourK c p at_ k most := ⟨_, rfl⟩
    obtain ⟨n, hn⟩ : ∃ n, n = (takenP c p at_ k most).length := ⟨_, rfl⟩
    rw [← hq, ← hx, ← hn] at HC7
    have HQX := Lib.hid (And.intro hq (And.intro hx hn))
    clear hq hx hn
    go_wp2_with fail
    refine HC7.out.mono ?_
    rintro e wb ⟨v1, v2, rfl, hv1, hv2, hs⟩
    have HS2 := Lib.hid (HS1.out.trans hs)
    have HG2 := Lib.hid (And.intro (hs.heap HG1.out.1 id) (And.intro (hs.heap HG1.out.2.1 id) (hs.heap HG1.out.2.2 id)))
    clear hs HG1 HC7
    clear q0 q1 q2 q3 q4 q5 q6 q7 p0 p1 p2 p3 p4 k0 k1 k2 k3 k4
    have HV1 := Lib.hid hv1
    have HV2 := Lib.hid hv2
    obtain ⟨a1, a2, a3, a4, rfl, s1, s2, s3, s4⟩ := hv1
    obtain ⟨A1, c1, rfl, -, -⟩ := s1.form
    obtain ⟨A2, c2, rfl, -, -⟩ := s2.form
    obtain ⟨A3, c3, rfl, -, -⟩ := s3.form
    obtain ⟨A4, c4, rfl, -, -⟩ := s4.form
    obtain ⟨b1, b2, b3, b4, rfl, t1, t2, t3, t4⟩ := hv2
    obtain ⟨B1, d1, rfl, -, -⟩ := t1.form
    obtain ⟨B2, d2, rfl, -, -⟩ := t2.form
    obtain ⟨B3, d3, rfl, -, -⟩ := t3.form
    obtain ⟨B4, d4, rfl, -, -⟩ := t4.form
    clear s1 s2 s3 s4 t1 t2 t3 t4
    go_upto_region 4 with fail
    obtain ⟨z1, z2⟩ := alloc2_at wb (.cells #[.int .i64 q.lev, .slice A1 q.kids.length c1, .slice A2 q.piv.length c2, .slice A3 q.buf.length c3, .slice A4 q.prs.length c4] 29) (.cells #[.int .i64 x.lev, .slice B1 x.kids.length d1, .slice B2 x.piv.length d2, .slice B3 x.buf.length d3, .slice B4 x.prs.length d4] 29)
    have hs := (Chg.alloc (S := fun _ => False) wb (.cells #[.int .i64 q.lev, .slice A1 q.kids.length c1, .slice A2 q.piv.length c2, .slice A3 q.buf.length c3, .slice A4 q.prs.length c4] 29)).allocs (.cells #[.int .i64 x.lev, .slice B1 x.kids.length d1, .slice B2 x.piv.length d2, .slice B3 x.buf.length d3, .slice B4 x.prs.length d4] 29)
    have HZ := Lib.hid (And.intro z1 z2)
    have HS3 := Lib.hid (HS2.out.trans hs)
    have HG3 := Lib.hid (And.intro (hs.heap HG2.out.1 id) (And.intro (hs.heap HG2.out.2.1 id) (hs.heap HG2.out.2.2 id)))
    have HV1' := Lib.hid (HV1.out.still hs)
    have HV2' := Lib.hid (HV2.out.still hs)
    clear z1 z2 hs HG2 HV1 HV2
    generalize (wb.alloc (.cells #[.int .i64 q.lev, .slice A1 q.kids.length c1, .slice A2 q.piv.length c2, .slice A3 q.buf.length c3, .slice A4 q.prs.length c4] 29)).alloc (.cells #[.int .i64 x.lev, .slice B1 x.kids.length d1, .slice B2 x.piv.length d2, .slice B3 x.buf.length d3, .slice B4 x.prs.length d4] 29) = wc at *
    generalize wb.heap.size = gz at *
    have HKe : Hid (Keeps c p k q x at_ most n) := Lib.hid (by have := HK.out HR.out; rw [← HQX.out.1, ← HQX.out.2.1, ← HQX.out.2.2] at this; exact this)
    have HSZ : Hid (p.buf.length ≤ 150 ∧ n ≤ 150 ∧ k.buf.length ≤ 150 ∧ k.prs.length ≤ 150 ∧ p.piv.length ≤ 80 ∧ k.piv.length ≤ 80 ∧ p.prs.length ≤ 150 ∧ c.leaf ≤ 1024 ∧ 0 ≤ c.leaf) := Lib.hid (by
      obtain ⟨a1, a2, a3, a4⟩ := HR.out.sp
      obtain ⟨b1, b2, b3, b4⟩ := HR.out.sk
      have hs := right9_sized HR.out.conf
      have u1 := hs.l1
      have u2 := hs.l2
      have u3 := hs.b1
      have u4 := hs.f1
      have := HKe.out.buf
      omega)
    have hw1 : IntKind.i64.wrap ((p.buf.length : Int) - (q.buf.length : Int)) = (n : Int) := by have := HKe.out.buf; have := HSZ.out; rw [IntKind.wrap_i64]; omega
    have hw2 : IntKind.i64.wrap ((k.buf.length : Int) + (n : Int)) = (k.buf.length : Int) + (n : Int) := by have := HSZ.out; rw [IntKind.wrap_i64]; omega
    have hw3 : IntKind.i64.wrap ((k.prs.length : Int) + (n : Int)) = (k.prs.length : Int) + (n : Int) := by have := HSZ.out; rw [IntKind.wrap_i64]; omega
    have hw4 : IntKind.i64.wrap ((k.prs.length : Int) - (n : Int)) = (k.prs.length : Int) - (n : Int) := by have := HSZ.out; rw [IntKind.wrap_i64]; omega
    have hw5 : IntKind.i64.wrap (c.leaf + (n : Int)) = c.leaf + (n : Int) := by have := HSZ.out; rw [IntKind.wrap_i64]; omega
    have t1 : ((n : Int) != (n : Int)) = false := bne_self_eq_false _
    have t1' : ((n : Int) == (n : Int)) = true := beq_self_eq_true _
    have t2 : decide ((n : Int) < 0) = false := by rw [decide_eq_false_iff_not]; omega
    have t3 : decide (max 0 most < (n : Int)) = false := by have := HKe.out.most; rw [decide_eq_false_iff_not]; omega
    have t4 : decide ((k.buf.length : Int) + (n : Int) < (x.buf.length : Int)) = false := by have := HKe.out.kbuf; rw [decide_eq_false_iff_not]; omega
    have t5 : decide ((k.prs.length : Int) + (n : Int) < (x.prs.length : Int)) = false := by have := HKe.out.prs; rw [decide_eq_false_iff_not]; omega
    have t6 : decide ((x.prs.length : Int) < (k.prs.length : Int) - (n : Int)) = false := by have := HKe.out.prs2; rw [decide_eq_false_iff_not]; omega
    have q0 := heap_cell (j := 0) HG3.out.1 rfl
    have q1 := heap_cell (j := 1) HG3.out.1 rfl
    have q2 := heap_cell (j := 2) HG3.out.1 rfl
    have q3 := heap_cell (j := 3) HG3.out.1 rfl
    have q4 := heap_cell (j := 4) HG3.out.1 rfl
    have q5 := heap_cell (j := 5) HG3.out.1 rfl
    have q6 := heap_cell (j := 6) HG3.out.1 rfl
    have q7 := heap_cell (j := 7) HG3.out.1 rfl
    have p0 := heap_cell (j := 0) HG3.out.2.1 rfl
    have p1 := heap_cell (j := 1) HG3.out.2.1 rfl
    have p2 := heap_cell (j := 2) HG3.out.2.1 rfl
    have p3 := heap_cell (j := 3) HG3.out.2.1 rfl
    have p4 := heap_cell (j := 4) HG3.out.2.1 rfl
    have k0 := heap_cell (j := 0) HG3.out.2.2 rfl
    have k1 := heap_cell (j := 1) HG3.out.2.2 rfl
    have k2 := heap_cell (j := 2) HG3.out.2.2 rfl
    have k3 := heap_cell (j := 3) HG3.out.2.2 rfl
    have k4 := heap_cell (j := 4) HG3.out.2.2 rfl
    have z0 := heap_cell (j := 0) HZ.out.1 rfl
    have z1 := heap_cell (j := 1) HZ.out.1 rfl
    have z2 := heap_cell (j := 2) HZ.out.1 rfl
    have z3 := heap_cell (j := 3) HZ.out.1 rfl
    have z4 := heap_cell (j := 4) HZ.out.1 rfl
    have y0 := heap_cell (j := 0) HZ.out.2 rfl
    have y1 := heap_cell (j := 1) HZ.out.2 rfl
    have y2 := heap_cell (j := 2) HZ.out.2 rfl
    have y3 := heap_cell (j := 3) HZ.out.2 rfl
    have y4 := heap_cell (j := 4) HZ.out.2 rfl
    have HSR := Lib.hid (rspan (HPV.out.still HS3.out) at_)
    unfold SpanP Sp.v allSp at HSR
    simp only at HSR
    obtain ⟨sr, hsr⟩ : ∃ sr, sr = spanR p.piv at_ := ⟨_, rfl⟩
    rw [← hsr] at HSR
    obtain ⟨⟨lo, hi, top⟩, okb⟩ := sr
    simp only at HSR
    have HSE := Lib.hid hsr
    clear hsr
    go_wp2_with fail
    refine HSR.out.mono ?_
    rintro e wd ⟨rfl, hs⟩
    have HS4 := Lib.hid (HS3.out.trans hs)
    have HG4 := Lib.hid (And.intro (hs.heap HG3.out.1 id) (And.intro (hs.heap HG3.out.2.1 id) (hs.heap HG3.out.2.2 id)))
    have HZ4 := Lib.hid (And.intro (hs.heap HZ.out.1 id) (hs.heap HZ.out.2 id))
    have HW1 := Lib.hid (HV1'.out.still hs)
    have HW2 := Lib.hid (HV2'.out.still hs)
    clear hs HSR HG3 HZ HV1' HV2' hw1 hw2 hw3 hw4 t1 t1' t2 t3 t4 t5 t6
    clear q0 q1 q2 q3 q4 q5 q6 q7 p0 p1 p2 p3 p4 k0 k1 k2 k3 k4 z0 z1 z2 z3 z4 y0 y1 y2 y3 y4
    have q0 := heap_cell (j := 0) HG4.out.1 rfl
    have q1 := heap_cell (j := 1) HG4.out.1 rfl
    have q2 := heap_cell (j := 2) HG4.out.1 rfl
    have q3 := heap_cell (j := 3) HG4.out.1 rfl
    have q4 := heap_cell (j := 4) HG4.out.1 rfl
    have q5 := heap_cell (j := 5) HG4.out.1 rfl
    have q6 := heap_cell (j := 6) HG4.out.1 rfl
    have q7 := heap_cell (j := 7) HG4.out.1 rfl
    have p0 := heap_cell (j := 0) HG4.out.2.1 rfl
    have p1 := heap_cell (j := 1) HG4.out.2.1 rfl
    have p2 := heap_cell (j := 2) HG4.out.2.1 rfl
    have p3 := heap_cell (j := 3) HG4.out.2.1 rfl
    have p4 := heap_cell (j := 4) HG4.out.2.1 rfl
    have k0 := heap_cell (j := 0) HG4.out.2.2 rfl
    have k1 := heap_cell (j := 1) HG4.out.2.2 rfl
    have k2 := heap_cell (j := 2) HG4.out.2.2 rfl
    have k3 := heap_cell (j := 3) HG4.out.2.2 rfl
    have k4 := heap_cell (j := 4) HG4.out.2.2 rfl
    go_upto_region 7 with fail
    have z1 := heap_alloc_new wd (.cells #[.string lo.1, .string hi.1, .bool top] 37)
    have hs := Chg.alloc (S := fun _ => False) wd (.cells #[.string lo.1, .string hi.1, .bool top] 37)
    have HNa := Lib.hid z1
    have HS4a := Lib.hid (HS4.out.trans hs)
    have HG4a := Lib.hid (And.intro (hs.heap HG4.out.1 id) (And.intro (hs.heap HG4.out.2.1 id) (hs.heap HG4.out.2.2 id)))
    have HZ4a := Lib.hid (And.intro (hs.heap HZ4.out.1 id) (hs.heap HZ4.out.2 id))
    have HSDa := Lib.hid hs
    clear z1 hs HG4 HZ4
    clear q0 q1 q2 q3 q4 q5 q6 q7 p0 p1 p2 p3 p4 k0 k1 k2 k3 k4
    generalize wd.alloc (.cells #[.string lo.1, .string hi.1, .bool top] 37) = wd1 at *
    generalize wd.heap.size = gs at *
    have q0 := heap_cell (j := 0) HG4a.out.1 rfl
    have q1 := heap_cell (j := 1) HG4a.out.1 rfl
    have q2 := heap_cell (j := 2) HG4a.out.1 rfl
    have q3 := heap_cell (j := 3) HG4a.out.1 rfl
    have q4 := heap_cell (j := 4) HG4a.out.1 rfl
    have q5 := heap_cell (j := 5) HG4a.out.1 rfl
    have q6 := heap_cell (j := 6) HG4a.out.1 rfl
    have q7 := heap_cell (j := 7) HG4a.out.1 rfl
    have p0 := heap_cell (j := 0) HG4a.out.2.1 rfl
    have p1 := heap_cell (j := 1) HG4a.out.2.1 rfl
    have p2 := heap_cell (j := 2) HG4a.out.2.1 rfl
    have p3 := heap_cell (j := 3) HG4a.out.2.1 rfl
    have p4 := heap_cell (j := 4) HG4a.out.2.1 rfl
    have k0 := heap_cell (j := 0) HG4a.out.2.2 rfl
    have k1 := heap_cell (j := 1) HG4a.out.2.2 rfl
    have k2 := heap_cell (j := 2) HG4a.out.2.2 rfl
    have k3 := heap_cell (j := 3) HG4a.out.2.2 rfl
    have k4 := heap_cell (j := 4) HG4a.out.2.2 rfl
    go_upto_region 8 with fail
    have z2 := heap_alloc_new wd1 (.cells #[.int .i64 c.blocks, .int .i64 c.bytes, .int .i64 c.frames, .int .i64 c.fan, .int .i64 c.buffer, .int .i64 c.leaf, .int .i64 c.key, .int .i64 c.val] 23)
    have hs := Chg.alloc (S := fun _ => False) wd1 (.cells #[.int .i64 c.blocks, .int .i64 c.bytes, .int .i64 c.frames, .int .i64 c.fan, .int .i64 c.buffer, .int .i64 c.leaf, .int .i64 c.key, .int .i64 c.val] 23)
    have HN := Lib.hid (And.intro (hs.heap HNa.out id) z2)
    have HS5 := Lib.hid (HS4a.out.trans hs)
    have HG5 := Lib.hid (And.intro (hs.heap HG4a.out.1 id) (And.intro (hs.heap HG4a.out.2.1 id) (hs.heap HG4a.out.2.2 id)))
    have HZ5 := Lib.hid (And.intro (hs.heap HZ4a.out.1 id) (hs.heap HZ4a.out.2 id))
    have HSD := Lib.hid hs
    have l1 : g + 1 + 1 < wd1.heap.size := heap_lt HG4a.out.2.2
    have l2 : gz + 1 < wd1.heap.size := heap_lt HZ4a.out.2
    have l3 : w.heap.size ≤ wd1.heap.size := HS4a.out.size
    have l4 : gs < wd1.heap.size := heap_lt HNa.out
    have HL := Lib.hid (And.intro l1 (And.intro l2 (And.intro l3 l4)))
    have HX1 := Lib.hid (HW1.out.still HSDa.out)
    have HX2 := Lib.hid (HW2.out.still HSDa.out)
    clear z2 hs HG4a HZ4a l1 l2 l3 l4 HW1 HW2 HNa
    clear q0 q1 q2 q3 q4 q5 q6 q7 p0 p1 p2 p3 p4 k0 k1 k2 k3 k4
    generalize wd1.alloc (.cells #[.int .i64 c.blocks, .int .i64 c.bytes, .int .i64 c.frames, .int .i64 c.fan, .int .i64 c.buffer, .int .i64 c.leaf, .int .i64 c.key, .int .i64 c.val] 23) = we at *
    generalize hgd : wd1.heap.size = gd at *
    have HGD := Lib.hid hgd
    clear hgd
    have q5 := heap_cell (j := 5) HG5.out.1 rfl
    have u5 := heap_cell (j := 5) HN.out.2 rfl
    have fz : we.frozen? ⟨gd, 5, none⟩ = false := heap_free HN.out.2
    go_upto_region 9 with fail
    have hc : Chg (fun i => i = gd) we (we.setCell ⟨gd, 5, none⟩ (.int .i64 (c.leaf + (n : Int)))) := Chg.setCell we _ _ rfl
    have HN6 := Lib.hid (And.intro (hc.heap HN.out.1 (by have := HL.out; omega)) (show (we.setCell ⟨gd, 5, none⟩ (.int .i64 (c.leaf + (n : Int)))).heap[gd]? = some (.cells #[.int .i64 c.blocks, .int .i64 c.bytes, .int .i64 c.frames, .int .i64 c.fan, .int .i64 c.buffer, .int .i64 (c.leaf + n), .int .i64 c.key, .int .i64 c.val] 23) from by simpa using heap_set (j := 5) HN.out.2 (.int .i64 (c.leaf + (n : Int)))))
    have HS6 := Lib.hid (HS5.out.then hc (fun i hi => .inr (by subst hi; have := HL.out; omega)))
    have HG6 := Lib.hid (And.intro (hc.heap HG5.out.1 (by have := HL.out; omega)) (And.intro (hc.heap HG5.out.2.1 (by have := HL.out; omega)) (hc.heap HG5.out.2.2 (by have := HL.out; omega))))
    have HZ6 := Lib.hid (And.intro (hc.heap HZ5.out.1 (by have := HL.out; omega)) (hc.heap HZ5.out.2 (by have := HL.out; omega)))
    have HWS := Lib.hid (HSD.out.then hc (fun i hi => .inr (by subst hi; have := HGD.out; omega)))
    have HY1 : Hid (NodeV (we.setCell ⟨gd, 5, none⟩ (.int .i64 (c.leaf + (n : Int)))) _ q) := Lib.hid (HX1.out.still HWS.out)
    have HY2 : Hid (NodeV (we.setCell ⟨gd, 5, none⟩ (.int .i64 (c.leaf + (n : Int)))) _ x) := Lib.hid (HX2.out.still HWS.out)
    clear hc q5 u5 fz HN HS5 HG5 HZ5
    generalize we.setCell ⟨gd, 5, none⟩ (.int .i64 (c.leaf + (n : Int))) = wf at *
    have HR1 := Lib.hid (right13 c allSp HY1.out (by rw [HKe.out.pivq]; have := HSZ.out; omega) (by rw [HKe.out.prsq]; have := HSZ.out; omega))
    unfold Sp.v Conf.vs allSp at HR1
    simp only at HR1
    have HR2 : Hid (∀ w', Still wf w' → _) := Lib.hid (fun w' hs => right13 { c with leaf := c.leaf + (n : Int) } ⟨lo, hi, top⟩ (HY2.out.still hs) (by rw [HKe.out.pivx]; have := HSZ.out; omega) (by have := HKe.out.prs; have := HSZ.out; omega))
    unfold Sp.v Conf.vs at HR2
    simp only at HR2
    have q0 := heap_cell (j := 0) HG6.out.1 rfl
    have q1 := heap_cell (j := 1) HG6.out.1 rfl
    have q2 := heap_cell (j := 2) HG6.out.1 rfl
    have q3 := heap_cell (j := 3) HG6.out.1 rfl
    have q4 := heap_cell (j := 4) HG6.out.1 rfl
    have q5 := heap_cell (j := 5) HG6.out.1 rfl
    have q6 := heap_cell (j := 6) HG6.out.1 rfl
    have q7 := heap_cell (j := 7) HG6.out.1 rfl
    have p0 := heap_cell (j := 0) HG6.out.2.1 rfl
    have p1 := heap_cell (j := 1) HG6.out.2.1 rfl
    have p2 := heap_cell (j := 2) HG6.out.2.1 rfl
    have p3 := heap_cell (j := 3) HG6.out.2.1 rfl
    have p4 := heap_cell (j := 4) HG6.out.2.1 rfl
    have k0 := heap_cell (j := 0) HG6.out.2.2 rfl
    have k1 := heap_cell (j := 1) HG6.out.2.2 rfl
    have k2 := heap_cell (j := 2) HG6.out.2.2 rfl
    have k3 := heap_cell (j := 3) HG6.out.2.2 rfl
    have k4 := heap_cell (j := 4) HG6.out.2.2 rfl
    have z0 := heap_cell (j := 0) HZ6.out.1 rfl
    have z1 := heap_cell (j := 1) HZ6.out.1 rfl
    have z2 := heap_cell (j := 2) HZ6.out.1 rfl
    have z3 := heap_cell (j := 3) HZ6.out.1 rfl
    have z4 := heap_cell (j := 4) HZ6.out.1 rfl
    have y0 := heap_cell (j := 0) HZ6.out.2 rfl
    have y1 := heap_cell (j := 1) HZ6.out.2 rfl
    have y2 := heap_cell (j := 2) HZ6.out.2 rfl
    have y3 := heap_cell (j := 3) HZ6.out.2 rfl
    have y4 := heap_cell (j := 4) HZ6.out.2 rfl
    have s0 := heap_cell (j := 0) HN6.out.1 rfl
    have s1 := heap_cell (j := 1) HN6.out.1 rfl
    have s2 := heap_cell (j := 2) HN6.out.1 rfl
    have u0 := heap_cell (j := 0) HN6.out.2 rfl
    have u1 := heap_cell (j := 1) HN6.out.2 rfl
    have u2 := heap_cell (j := 2) HN6.out.2 rfl
    have u3 := heap_cell (j := 3) HN6.out.2 rfl
    have u4 := heap_cell (j := 4) HN6.out.2 rfl
    have u5 := heap_cell (j := 5) HN6.out.2 rfl
    have u6 := heap_cell (j := 6) HN6.out.2 rfl
    have u7 := heap_cell (j := 7) HN6.out.2 rfl
    cases okb with
    | true =>
      have HRX : Hid (RightP { c with leaf := c.leaf + (n : Int) } ⟨lo, hi, top⟩ x) := Lib.hid (by have := HKe.out.rx; rw [← HSE.out] at this; exact this rfl)
      go_wp2_with fail
      refine HR1.out.mono ?_
      rintro e wg ⟨b1, rfl, hb1, hs⟩
      obtain rfl : b1 = true := hb1.out.2 HKe.out.rq
      have HSA := Lib.hid hs
      have HS7 := Lib.hid (HS6.out.trans hs)
      have HN7 := Lib.hid (And.intro (hs.heap HN6.out.1 id) (hs.heap HN6.out.2 id))
      have HZ7 := Lib.hid (hs.heap HZ6.out.2 id)
      clear hs hb1 HR1 q0 q1 q2 q3 q4 q5 q6 q7 p0 p1 p2 p3 p4 k0 k1 k2 k3 k4 z0 z1 z2 z3 z4 y0 y1 y2 y3 y4 s0 s1 s2 u0 u1 u2 u3 u4 u5 u6 u7
      have y0 := heap_cell (j := 0) HZ7.out rfl
      have y1 := heap_cell (j := 1) HZ7.out rfl
      have y2 := heap_cell (j := 2) HZ7.out rfl
      have y3 := heap_cell (j := 3) HZ7.out rfl
      have y4 := heap_cell (j := 4) HZ7.out rfl
      have s0 := heap_cell (j := 0) HN7.out.1 rfl
      have s1 := heap_cell (j := 1) HN7.out.1 rfl
      have s2 := heap_cell (j := 2) HN7.out.1 rfl
      have u0 := heap_cell (j := 0) HN7.out.2 rfl
      have u1 := heap_cell (j := 1) HN7.out.2 rfl
      have u2 := heap_cell (j := 2) HN7.out.2 rfl
      have u3 := heap_cell (j := 3) HN7.out.2 rfl
      have u4 := heap_cell (j := 4) HN7.out.2 rfl
      have u5 := heap_cell (j := 5) HN7.out.2 rfl
      have u6 := heap_cell (j := 6) HN7.out.2 rfl
      have u7 := heap_cell (j := 7) HN7.out.2 rfl
      go_wp2_with fail
      refine (HR2.out _ HSA.out).mono ?_
      rintro e wh ⟨b2, rfl, hb2, hs⟩
      obtain rfl : b2 = true := hb2.out.2 HRX.out
      have HS8 := Lib.hid (HS7.out.trans hs)
      clear hs hb2 HR2 y0 y1 y2 y3 y4 s0 s1 s2 u0 u1 u2 u3 u4 u5 u6 u7
      go_wp2_with fail
      refine (awake6 _).mono ?_
      rintro e wi ⟨rfl, hs⟩
      have HS9 := Lib.hid (HS8.out.trans hs)
      clear hs
      go_wp2
      go_ret
      exact ⟨rfl, HS9.out⟩
    | false =>
      go_wp2_with fail
      refine HR1.out.mono ?_
      rintro e wg ⟨b1, rfl, hb1, hs⟩
      obtain rfl : b1 = true := hb1.out.2 HKe.out.rq
      have HS7 := Lib.hid (HS6.out.trans hs)
      clear hs hb1 HR1 q0 q1 q2 q3 q4 q5 q6 q7 p0 p1 p2 p3 p4 k0 k1 k2 k3 k4 z0 z1 z2 z3 z4 y0 y1 y2 y3 y4 s0 s1 s2 u0 u1 u2 u3 u4 u5 u6 u7
      go_wp2_with fail
      refine (awake6 _).mono ?_
      rintro e wi ⟨rfl, hs⟩
      have HS9 := Lib.hid (HS7.out.trans hs)
      clear hs
      go_wp2
      go_ret
      exact ⟨rfl, HS9.out⟩
end Go.Proofs.Ytekoibglogoaaaa
