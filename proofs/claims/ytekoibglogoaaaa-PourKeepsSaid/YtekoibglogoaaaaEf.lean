/- Settings and nodes that are right: the law's guard, by its contract. -/
import Derived.Test.YtekoibglogoaaaaEe
import Derived.Test.YtekoibglogoaaaaEc
namespace Go.Proofs.Ytekoibglogoaaaa
open Go Go.RowKit Go.Shelf
set_option linter.unusedVariables false
set_option linter.unusedSimpArgs false

/-- The span that the law holds the kid's keys against. -/
def kidSp (p : Nd) (at_ : Int) : Sp := if (spanR p.piv at_).2 then (spanR p.piv at_).1 else allSp
structure RightAll (c : Conf) (p : Nd) (at_ : Int) (k : Nd) : Prop where
  sp : Small p
  sk : Small k
  conf : right9B c = true
  lev : 1 ≤ p.lev
  rp : RightP c allSp p
  rk : RightP c (kidSp p at_) k
def GuardP (q : Prop) (w : World) (e : Ending) (w' : World) : Prop := ∃ b : Bool, e = .returned (.bool b) ∧ Hid (b = true → q) ∧ Still w w'
theorem alloc3h (w : World) (a b c : Obj) : ((w.alloc a).alloc b |>.alloc c).heap[w.heap.size]? = some a ∧ ((w.alloc a).alloc b |>.alloc c).heap[w.heap.size + 1]? = some b ∧ ((w.alloc a).alloc b |>.alloc c).heap[w.heap.size + 1 + 1]? = some c := by
  obtain ⟨h1, h2⟩ := alloc2_at w a b
  have h3 := heap_alloc_new ((w.alloc a).alloc b) c
  rw [size_al, size_al] at h3
  have hc := Chg.alloc (S := fun _ => False) ((w.alloc a).alloc b) c
  exact ⟨hc.heap h1 id, hc.heap h2 id, h3⟩
set_option maxRecDepth 100000 in
set_option maxHeartbeats 8000000 in
theorem right5 {c : Conf} {p k : Nd} {at_ : Int} {w : World} {vp vk : Value} (hp : NodeV w vp p) (hk : NodeV w vk k) : Calls Try.prog 5 #[.agg c.vs, vp, .int .i64 at_, vk] w (GuardP (RightAll c p at_ k) w) := by
  have HVP : Hid (∀ w', Still w w' → NodeV w' vp p) := Lib.hid (fun w' hs => hp.still hs)
  have HVK : Hid (∀ w', Still w w' → NodeV w' vk k) := Lib.hid (fun w' hs => hk.still hs)
  obtain ⟨p1, p2, p3, p4, rfl, hp1, hp2, hp3, hp4⟩ := hp
  obtain ⟨k1', k2', k3, k4, rfl, hk1, hk2, hk3, hk4⟩ := hk
  have HPV := Lib.hid hp2
  obtain ⟨P1, e1, rfl, -, -⟩ := hp1.form
  obtain ⟨P2, e2, rfl, -, -⟩ := hp2.form
  obtain ⟨P3, e3, rfl, -, -⟩ := hp3.form
  obtain ⟨P4, e4, rfl, -, -⟩ := hp4.form
  obtain ⟨Q1, f1, rfl, -, -⟩ := hk1.form
  obtain ⟨Q2, f2, rfl, -, -⟩ := hk2.form
  obtain ⟨Q3, f3, rfl, -, -⟩ := hk3.form
  obtain ⟨Q4, f4, rfl, -, -⟩ := hk4.form
  clear hp1 hp2 hp3 hp4 hk1 hk2 hk3 hk4
  have HBAD : Hid (∀ w', Still w w' → GuardP (RightAll c p at_ k) w (.returned (.bool false)) w') := Lib.hid (fun w' hs => ⟨false, rfl, Lib.hid (fun h => by simp at h), hs⟩)
  have hG := alloc3h w (.cells #[.int .i64 c.blocks, .int .i64 c.bytes, .int .i64 c.frames, .int .i64 c.fan, .int .i64 c.buffer, .int .i64 c.leaf, .int .i64 c.key, .int .i64 c.val] 23) (.cells #[.int .i64 p.lev, .slice P1 p.kids.length e1, .slice P2 p.piv.length e2, .slice P3 p.buf.length e3, .slice P4 p.prs.length e4] 29) (.cells #[.int .i64 k.lev, .slice Q1 k.kids.length f1, .slice Q2 k.piv.length f2, .slice Q3 k.buf.length f3, .slice Q4 k.prs.length f4] 29)
  have HG := Lib.hid hG
  have HS0 := Lib.hid (((Chg.alloc (S := fun _ => False) w (.cells #[.int .i64 c.blocks, .int .i64 c.bytes, .int .i64 c.frames, .int .i64 c.fan, .int .i64 c.buffer, .int .i64 c.leaf, .int .i64 c.key, .int .i64 c.val] 23)).allocs (.cells #[.int .i64 p.lev, .slice P1 p.kids.length e1, .slice P2 p.piv.length e2, .slice P3 p.buf.length e3, .slice P4 p.prs.length e4] 29)).allocs (.cells #[.int .i64 k.lev, .slice Q1 k.kids.length f1, .slice Q2 k.piv.length f2, .slice Q3 k.buf.length f3, .slice Q4 k.prs.length f4] 29))
  clear hG
  have R9 := Lib.hid (right9 c)
  unfold Conf.vs at *
  go_enter Try.func5, Try.ntmps5
  go_upto_region 1 with fail
  generalize ((w.alloc (.cells #[.int .i64 c.blocks, .int .i64 c.bytes, .int .i64 c.frames, .int .i64 c.fan, .int .i64 c.buffer, .int .i64 c.leaf, .int .i64 c.key, .int .i64 c.val] 23)).alloc (.cells #[.int .i64 p.lev, .slice P1 p.kids.length e1, .slice P2 p.piv.length e2, .slice P3 p.buf.length e3, .slice P4 p.prs.length e4] 29)).alloc (.cells #[.int .i64 k.lev, .slice Q1 k.kids.length f1, .slice Q2 k.piv.length f2, .slice Q3 k.buf.length f3, .slice Q4 k.prs.length f4] 29) = w0 at *
  generalize w.heap.size = g at *
  have p0 := heap_cell (j := 0) HG.out.2.1 rfl
  have p1 := heap_cell (j := 1) HG.out.2.1 rfl
  have p2 := heap_cell (j := 2) HG.out.2.1 rfl
  have p3 := heap_cell (j := 3) HG.out.2.1 rfl
  have p4 := heap_cell (j := 4) HG.out.2.1 rfl
  go_wp2_with fail
  refine (great (HVP.out _ HS0.out)).mono ?_
  rintro e wa ⟨b1, rfl, hb1, hs⟩
  have HS1 := Lib.hid (HS0.out.trans hs)
  have HG1 := Lib.hid (And.intro (hs.heap HG.out.1 id) (And.intro (hs.heap HG.out.2.1 id) (hs.heap HG.out.2.2 id)))
  clear hs p0 p1 p2 p3 p4 HG
  cases b1 with
  | true =>
    go_wp2
    go_ret
    exact HBAD.out _ HS1.out
  | false =>
    have HSP := Lib.hid (hb1.out rfl)
    clear hb1
    have k0 := heap_cell (j := 0) HG1.out.2.2 rfl
    have k1 := heap_cell (j := 1) HG1.out.2.2 rfl
    have k2 := heap_cell (j := 2) HG1.out.2.2 rfl
    have k3 := heap_cell (j := 3) HG1.out.2.2 rfl
    have k4 := heap_cell (j := 4) HG1.out.2.2 rfl
    go_wp2_with fail
    refine (great (HVK.out _ HS1.out)).mono ?_
    rintro e wb ⟨b2, rfl, hb2, hs⟩
    have HS2 := Lib.hid (HS1.out.trans hs)
    have HG2 := Lib.hid (And.intro (hs.heap HG1.out.1 id) (And.intro (hs.heap HG1.out.2.1 id) (hs.heap HG1.out.2.2 id)))
    clear hs k0 k1 k2 k3 k4 HG1 HS1 HS0
    cases b2 with
    | true =>
      go_wp2
      go_ret
      exact HBAD.out _ HS2.out
    | false =>
      have HSK := Lib.hid (hb2.out rfl)
      clear hb2
      have q0 := heap_cell (j := 0) HG2.out.1 rfl
      have q1 := heap_cell (j := 1) HG2.out.1 rfl
      have q2 := heap_cell (j := 2) HG2.out.1 rfl
      have q3 := heap_cell (j := 3) HG2.out.1 rfl
      have q4 := heap_cell (j := 4) HG2.out.1 rfl
      have q5 := heap_cell (j := 5) HG2.out.1 rfl
      have q6 := heap_cell (j := 6) HG2.out.1 rfl
      have q7 := heap_cell (j := 7) HG2.out.1 rfl
      go_wp2_with fail
      refine (R9.out _).mono ?_
      rintro e wc ⟨rfl, hs⟩
      have HS3 := Lib.hid (HS2.out.trans hs)
      have HG3 := Lib.hid (And.intro (hs.heap HG2.out.1 id) (And.intro (hs.heap HG2.out.2.1 id) (hs.heap HG2.out.2.2 id)))
      clear hs q0 q1 q2 q3 q4 q5 q6 q7 HG2 HS2
      cases hr9 : right9B c with
      | false =>
        clear hr9
        go_wp2
        go_ret
        exact HBAD.out _ HS3.out
      | true =>
        have H9 := Lib.hid hr9
        clear hr9
        have p0 := heap_cell (j := 0) HG3.out.2.1 rfl
        have p1 := heap_cell (j := 1) HG3.out.2.1 rfl
        have p2 := heap_cell (j := 2) HG3.out.2.1 rfl
        have p3 := heap_cell (j := 3) HG3.out.2.1 rfl
        have p4 := heap_cell (j := 4) HG3.out.2.1 rfl
        have q0 := heap_cell (j := 0) HG3.out.1 rfl
        have q1 := heap_cell (j := 1) HG3.out.1 rfl
        have q2 := heap_cell (j := 2) HG3.out.1 rfl
        have q3 := heap_cell (j := 3) HG3.out.1 rfl
        have q4 := heap_cell (j := 4) HG3.out.1 rfl
        have q5 := heap_cell (j := 5) HG3.out.1 rfl
        have q6 := heap_cell (j := 6) HG3.out.1 rfl
        have q7 := heap_cell (j := 7) HG3.out.1 rfl
        by_cases hlev : 1 ≤ p.lev
        case neg =>
          go_wp2
          go_ret
          exact HBAD.out _ HS3.out
        have HRP := Lib.hid (right13 c allSp (HVP.out _ HS3.out) (by have := HSP.out.2.1; omega) (by have := HSP.out.2.2.2; omega))
        unfold Sp.v Conf.vs allSp at HRP
        simp only at HRP
        go_wp2_with fail
        refine HRP.out.mono ?_
        rintro e wd ⟨b3, rfl, hb3, hs⟩
        have HS4 := Lib.hid (HS3.out.trans hs)
        have HG4 := Lib.hid (And.intro (hs.heap HG3.out.1 id) (And.intro (hs.heap HG3.out.2.1 id) (hs.heap HG3.out.2.2 id)))
        clear hs p0 p1 p2 p3 p4 q0 q1 q2 q3 q4 q5 q6 q7 HG3 HS3 HRP
        cases b3 with
        | false =>
          go_wp2
          go_ret
          exact HBAD.out _ HS4.out
        | true =>
          have HRR : Hid (RightP c allSp p) := Lib.hid (hb3.out.1 (by trivial))
          clear hb3
          have p2 := heap_cell (j := 2) HG4.out.2.1 rfl
          have HSR := Lib.hid (rspan (HPV.out.still HS4.out) at_)
          unfold SpanP Sp.v allSp at HSR
          simp only at HSR
          obtain ⟨sr, hsr⟩ : ∃ sr, sr = spanR p.piv at_ := ⟨_, rfl⟩
          rw [← hsr] at HSR
          obtain ⟨⟨lo, hi, top⟩, okb⟩ := sr
          simp only at HSR
          have HSE := Lib.hid hsr
          clear hsr
          go_wp2_with fail
          refine HSR.out.mono ?_
          rintro e we ⟨rfl, hs⟩
          have HS5 := Lib.hid (HS4.out.trans hs)
          have HG5 := Lib.hid (And.intro (hs.heap HG4.out.1 id) (And.intro (hs.heap HG4.out.2.1 id) (hs.heap HG4.out.2.2 id)))
          clear hs p2 HSR HS4 HG4
          go_upto_region 4 with fail
          have hn := heap_alloc_new we (.cells #[.string lo.1, .string hi.1, .bool top] 37)
          have hsa := Chg.alloc (S := fun _ => False) we (.cells #[.string lo.1, .string hi.1, .bool top] 37)
          have HS6 := Lib.hid (HS5.out.trans hsa)
          have HG6 := Lib.hid (And.intro (hsa.heap HG5.out.1 id) (And.intro (hsa.heap HG5.out.2.1 id) (hsa.heap HG5.out.2.2 id)))
          have HN := Lib.hid hn
          have hge : w.heap.size ≤ we.heap.size := HS5.out.size
          have HGE := Lib.hid hge
          have hgg : g + 1 + 1 < we.heap.size := heap_lt HG5.out.2.2
          have HGG := Lib.hid hgg
          clear hn hsa hge hgg HS5 HG5
          generalize we.alloc (.cells #[.string lo.1, .string hi.1, .bool top] 37) = wf at *
          generalize we.heap.size = gs at *
          cases okb with
          | true =>
            have HKS : Hid (kidSp p at_ = ⟨lo, hi, top⟩) := Lib.hid (by unfold kidSp; rw [← HSE.out]; rfl)
            have HRK := Lib.hid (right13 c ⟨lo, hi, top⟩ (HVK.out _ HS6.out) (by have := HSK.out.2.1; omega) (by have := HSK.out.2.2.2; omega))
            unfold Sp.v Conf.vs at HRK
            simp only at HRK
            have s0 := heap_cell (j := 0) HN.out rfl
            have s1 := heap_cell (j := 1) HN.out rfl
            have s2 := heap_cell (j := 2) HN.out rfl
            have k0 := heap_cell (j := 0) HG6.out.2.2 rfl
            have k1 := heap_cell (j := 1) HG6.out.2.2 rfl
            have k2 := heap_cell (j := 2) HG6.out.2.2 rfl
            have k3 := heap_cell (j := 3) HG6.out.2.2 rfl
            have k4 := heap_cell (j := 4) HG6.out.2.2 rfl
            have q0 := heap_cell (j := 0) HG6.out.1 rfl
            have q1 := heap_cell (j := 1) HG6.out.1 rfl
            have q2 := heap_cell (j := 2) HG6.out.1 rfl
            have q3 := heap_cell (j := 3) HG6.out.1 rfl
            have q4 := heap_cell (j := 4) HG6.out.1 rfl
            have q5 := heap_cell (j := 5) HG6.out.1 rfl
            have q6 := heap_cell (j := 6) HG6.out.1 rfl
            have q7 := heap_cell (j := 7) HG6.out.1 rfl
            go_wp2_with fail
            refine HRK.out.mono ?_
            rintro e wg ⟨b4, rfl, hb4, hs⟩
            have HS7 := Lib.hid (HS6.out.trans hs)
            have HPOST : Hid (b4 = true → RightAll c p at_ k) := Lib.hid (fun h => ⟨HSP.out, HSK.out, H9.out, hlev, HRR.out, by rw [HKS.out]; exact hb4.out.1 h⟩)
            clear hs hb4 s0 s1 s2 k0 k1 k2 k3 k4 q0 q1 q2 q3 q4 q5 q6 q7
            go_wp2
            go_ret
            exact ⟨b4, rfl, HPOST, HS7.out⟩
          | false =>
            have HKS : Hid (kidSp p at_ = allSp) := Lib.hid (by unfold kidSp; rw [← HSE.out]; rfl)
            have s0 := heap_cell (j := 0) HN.out rfl
            have s1 := heap_cell (j := 1) HN.out rfl
            have s2 := heap_cell (j := 2) HN.out rfl
            have t0 := heap_free (j := 0) HN.out
            have t1 := heap_free (j := 1) HN.out
            have t2 := heap_free (j := 2) HN.out
            go_upto_region 6 with fail
            have HC3 := Lib.hid (set3c wf gs (.string ⟨#[]⟩) (.string ⟨#[]⟩) (.bool true))
            have HY := Lib.hid (set3_heap HN.out (.string ⟨#[]⟩) (.string ⟨#[]⟩) (.bool true))
            have n0 : ¬ g = gs := by have := HGG.out; omega
            have n1 : ¬ g + 1 = gs := by have := HGG.out; omega
            have n2 : ¬ g + 1 + 1 = gs := by have := HGG.out; omega
            have HG7 := Lib.hid (And.intro (HC3.out.heap HG6.out.1 n0) (And.intro (HC3.out.heap HG6.out.2.1 n1) (HC3.out.heap HG6.out.2.2 n2)))
            have HS7 := Lib.hid (HS6.out.then HC3.out (fun i hi => .inr (by rw [show i = gs from hi]; exact HGE.out)))
            clear s0 s1 s2 t0 t1 t2 n0 n1 n2
            generalize ((wf.setCell ⟨gs, 0, none⟩ (.string ⟨#[]⟩)).setCell ⟨gs, 1, none⟩ (.string ⟨#[]⟩)).setCell ⟨gs, 2, none⟩ (.bool true) = wh at *
            have HRK := Lib.hid (right13 c allSp (HVK.out _ HS7.out) (by have := HSK.out.2.1; omega) (by have := HSK.out.2.2.2; omega))
            unfold Sp.v Conf.vs allSp at HRK
            simp only at HRK
            have s0 := heap_cell (j := 0) HY.out rfl
            have s1 := heap_cell (j := 1) HY.out rfl
            have s2 := heap_cell (j := 2) HY.out rfl
            have k0 := heap_cell (j := 0) HG7.out.2.2 rfl
            have k1 := heap_cell (j := 1) HG7.out.2.2 rfl
            have k2 := heap_cell (j := 2) HG7.out.2.2 rfl
            have k3 := heap_cell (j := 3) HG7.out.2.2 rfl
            have k4 := heap_cell (j := 4) HG7.out.2.2 rfl
            have q0 := heap_cell (j := 0) HG7.out.1 rfl
            have q1 := heap_cell (j := 1) HG7.out.1 rfl
            have q2 := heap_cell (j := 2) HG7.out.1 rfl
            have q3 := heap_cell (j := 3) HG7.out.1 rfl
            have q4 := heap_cell (j := 4) HG7.out.1 rfl
            have q5 := heap_cell (j := 5) HG7.out.1 rfl
            have q6 := heap_cell (j := 6) HG7.out.1 rfl
            have q7 := heap_cell (j := 7) HG7.out.1 rfl
            go_wp2_with fail
            refine HRK.out.mono ?_
            rintro e wg ⟨b4, rfl, hb4, hs⟩
            have HS8 := Lib.hid (HS7.out.trans hs)
            have HPOST : Hid (b4 = true → RightAll c p at_ k) := Lib.hid (fun h => ⟨HSP.out, HSK.out, H9.out, hlev, HRR.out, by rw [HKS.out]; exact hb4.out.1 h⟩)
            clear hs hb4 s0 s1 s2 k0 k1 k2 k3 k4 q0 q1 q2 q3 q4 q5 q6 q7
            go_wp2
            go_ret
            exact ⟨b4, rfl, HPOST, HS8.out⟩
end Go.Proofs.Ytekoibglogoaaaa
