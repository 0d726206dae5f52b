/- The page's example. -/
import Derived.Test.YtekoibglogoaaaaEd
import Derived.Deep.CutBlock
namespace Go.Proofs.Ytekoibglogoaaaa
open Go Go.RowKit Go.Shelf
set_option linter.unusedVariables false
set_option linter.unusedSimpArgs false

def kA : K := ⟨⟨#[97]⟩, by decide⟩
def kB : K := ⟨⟨#[98]⟩, by decide⟩
def kC : K := ⟨⟨#[99]⟩, by decide⟩
def kz : K := ⟨⟨#[48]⟩, by decide⟩
def k1 : K := ⟨⟨#[49]⟩, by decide⟩
def k2 : K := ⟨⟨#[50]⟩, by decide⟩
def pN : Nd := ⟨1, [⟨3, by decide⟩, ⟨4, by decide⟩], [kB], [⟨kA, false, k1⟩, ⟨kC, false, k2⟩], []⟩
def kN : Nd := ⟨0, [], [], [], [⟨kA, kz⟩]⟩
def cN : Conf := ⟨0, 0, 0, 0, 16, 0, 0, 0⟩
theorem pN_rises : Rises Msg.k pN.buf := rises_of_pw (by decide)
theorem early_no : ¬ earlyP pN kN 0 9 := by decide
theorem hN : PourH cN pN kN 0 9 := by
  refine ⟨⟨by decide, by decide, by decide, by decide⟩, ⟨by decide, by decide, by decide, by decide⟩, ⟨by decide, by decide⟩, ⟨by decide, by decide⟩, pN_rises, rises_of_pw (by decide), by decide, by decide, by decide, fun _ => ?_, ⟨by decide, by decide⟩, ⟨by decide, by decide⟩, ⟨by decide, by decide⟩⟩
  rfl
theorem resP : (pourP cN pN 0 kN 9).buf = [⟨kC, false, k2⟩] := by
  unfold pourP
  rw [if_neg early_no]
  rfl
theorem resT : takenP cN pN 0 kN 9 = [⟨kA, false, k1⟩] := by
  unfold takenP
  rw [if_neg early_no]
  rfl
theorem resK : (pourK cN pN 0 kN 9).prs = [⟨kA, k1⟩] := by
  unfold pourK
  rw [if_neg early_no, if_pos (show kN.lev = 0 from rfl), resT]
  rfl
theorem posA : pN.buf[posN Msg.k pN.buf kA]? = some ⟨kA, false, k1⟩ := rfl
/-- A slice laid down as a literal. -/
theorem lit_sl {α : Type} {enc : α → List Value} {sz : Nat} (he : ∀ x, (enc x).length = sz) (h0 : 0 < sz) {w : World} {b : Nat} {ty : TypeId} {xs : List α} {cs : Array Value} (h : w.heap[b]? = some (.cells cs ty)) (hc : cs = (xs.flatMap enc).toArray) (hl : xs.length ≤ 9223372036854775807) : Sl enc sz w (.slice (some ⟨b, 0, none⟩) xs.length xs.length) xs := by
  subst hc
  refine ⟨_, _, rfl, Nat.le_refl _, hl, fun _ => ⟨b, 0, rfl, heap_lt h, fun i x hx j u hu => ?_⟩⟩
  rw [Nat.zero_add]
  refine heap_cell h ?_
  rw [List.getElem?_toArray, flat_get he h0 _ _ _ (by rw [← he x]; exact (List.getElem?_eq_some_iff.1 hu).1), hx]
  exact hu
theorem alloc6_at (w : World) (a b c d e f : Obj) : let w6 := (((((w.alloc a).alloc b).alloc c).alloc d).alloc e).alloc f
    w6.heap[w.heap.size]? = some a ∧ w6.heap[w.heap.size + 1]? = some b ∧ w6.heap[w.heap.size + 1 + 1]? = some c ∧ w6.heap[w.heap.size + 1 + 1 + 1]? = some d ∧ w6.heap[w.heap.size + 1 + 1 + 1 + 1]? = some e ∧ w6.heap[w.heap.size + 1 + 1 + 1 + 1 + 1]? = some f := by
  intro w6
  obtain ⟨h1, h2, h3, h4, h5, hs⟩ := alloc5_at w a b c d e
  have h6 := heap_alloc_new (((((w.alloc a).alloc b).alloc c).alloc d).alloc e) f
  rw [hs] at h6
  have hc := Chg.alloc (S := fun _ => False) (((((w.alloc a).alloc b).alloc c).alloc d).alloc e) f
  exact ⟨hc.heap h1 id, hc.heap h2 id, hc.heap h3 id, hc.heap h4 id, hc.heap h5 id, h6⟩
set_option maxRecDepth 100000 in
set_option maxHeartbeats 4000000 in
theorem awake6 (w : World) : Calls Try.prog 6 #[] w fun e w' => e = .returned (.bool true) ∧ Still w w' := by
  obtain ⟨g0, g1, g2, g3, g4, g5⟩ := alloc6_at w (.cells #[.int .u32 3, .int .u32 4] 43) (.cells #[.string ⟨#[98]⟩] 9) (.cells #[.string ⟨#[97]⟩, .bool false, .string ⟨#[49]⟩, .string ⟨#[99]⟩, .bool false, .string ⟨#[50]⟩] 45) (.cells #[.int .i64 1, .slice (some ⟨w.heap.size, 0, none⟩) 2 2, .slice (some ⟨w.heap.size + 1, 0, none⟩) 1 1, .slice (some ⟨w.heap.size + 1 + 1, 0, none⟩) 2 2, .slice none 0 0] 29) (.cells #[.string ⟨#[97]⟩, .string ⟨#[48]⟩] 47) (.cells #[.int .i64 0, .slice none 0 0, .slice none 0 0, .slice none 0 0, .slice (some ⟨w.heap.size + 1 + 1 + 1 + 1, 0, none⟩) 1 1] 29)
  have hS := (((((Chg.alloc (S := fun _ => False) w (.cells #[.int .u32 3, .int .u32 4] 43)).allocs (.cells #[.string ⟨#[98]⟩] 9)).allocs (.cells #[.string ⟨#[97]⟩, .bool false, .string ⟨#[49]⟩, .string ⟨#[99]⟩, .bool false, .string ⟨#[50]⟩] 45)).allocs (.cells #[.int .i64 1, .slice (some ⟨w.heap.size, 0, none⟩) 2 2, .slice (some ⟨w.heap.size + 1, 0, none⟩) 1 1, .slice (some ⟨w.heap.size + 1 + 1, 0, none⟩) 2 2, .slice none 0 0] 29)).allocs (.cells #[.string ⟨#[97]⟩, .string ⟨#[48]⟩] 47)).allocs (.cells #[.int .i64 0, .slice none 0 0, .slice none 0 0, .slice none 0 0, .slice (some ⟨w.heap.size + 1 + 1 + 1 + 1, 0, none⟩) 1 1] 29)
  have S1 := lit_sl (xs := pN.kids) lenU (by decide) g0 rfl (by decide)
  have S2 := lit_sl (xs := pN.piv) lenS (by decide) g1 rfl (by decide)
  have S3 := lit_sl (xs := pN.buf) lenM (by decide) g2 rfl (by decide)
  have T4 := lit_sl (xs := kN.prs) lenP (by decide) g4 rfl (by decide)
  have HPV := Lib.hid (show NodeV _ (.agg #[.int .i64 1, .slice (some ⟨w.heap.size, 0, none⟩) 2 2, .slice (some ⟨w.heap.size + 1, 0, none⟩) 1 1, .slice (some ⟨w.heap.size + 1 + 1, 0, none⟩) 2 2, .slice none 0 0]) pN from ⟨_, _, _, _, rfl, S1, S2, S3, Sl.nil none 0 (by decide)⟩)
  have HKV := Lib.hid (show NodeV _ (.agg #[.int .i64 0, .slice none 0 0, .slice none 0 0, .slice none 0 0, .slice (some ⟨w.heap.size + 1 + 1 + 1 + 1, 0, none⟩) 1 1]) kN from ⟨_, _, _, _, rfl, Sl.nil none 0 (by decide), Sl.nil none 0 (by decide), Sl.nil none 0 (by decide), T4⟩)
  have HS3 := Lib.hid S3
  have HS := Lib.hid hS
  have HG := Lib.hid (And.intro g3 g5)
  clear g0 g1 g2 g3 g4 g5 S1 S2 S3 T4 hS
  go_enter Try.func6, Try.ntmps6
  go_wp2_with fail
  refine (pour7 hN HPV.out HKV.out).mono ?_
  rintro e w2 ⟨v1, v2, rfl, hq, hx, hs⟩
  rw [resT]
  have HS2 := Lib.hid (HS.out.trans hs)
  have HM2 := Lib.hid (HS3.out.still hs)
  have HG2 := Lib.hid (And.intro (hs.heap HG.out.1 id) (hs.heap HG.out.2 id))
  obtain ⟨q1, q2, q3, q4, rfl, s1, s2, s3, s4⟩ := hq
  obtain ⟨x1, x2, x3, x4, rfl, t1, t2, t3, t4⟩ := hx
  rw [resP] at s3
  rw [resK] at t4
  obtain ⟨A1, c1, rfl, -, -⟩ := s1.form
  obtain ⟨A2, c2, rfl, -, -⟩ := s2.form
  obtain ⟨A3, c3, rfl, z3, -⟩ := s3.form
  obtain ⟨b3, o3, rfl, hb3, m0, -, -⟩ := s3.msg 0 (by simp)
  obtain ⟨A4, c4, rfl, -, -⟩ := s4.form
  obtain ⟨B1, d1, rfl, -, -⟩ := t1.form
  obtain ⟨B2, d2, rfl, -, -⟩ := t2.form
  obtain ⟨B3, d3, rfl, -, -⟩ := t3.form
  obtain ⟨B4, d4, rfl, y3, -⟩ := t4.form
  obtain ⟨b5, o5, rfl, hb5, -, m1⟩ := t4.pr 0 (by simp)
  have n0 : w2.cell? ⟨b3, o3, none⟩ = some (.string ⟨#[99]⟩) := m0
  have n1 : w2.cell? ⟨b5, o5 + 1, none⟩ = some (.string ⟨#[49]⟩) := m1
  have HNN := Lib.hid (And.intro n0 n1)
  simp only [List.length_singleton] at *
  generalize (pourP cN pN 0 kN 9).kids.length = e1 at *
  generalize (pourP cN pN 0 kN 9).piv.length = e2 at *
  generalize (pourP cN pN 0 kN 9).prs.length = e4 at *
  generalize (pourP cN pN 0 kN 9).lev = l1 at *
  generalize (pourK cN pN 0 kN 9).kids.length = f1 at *
  generalize (pourK cN pN 0 kN 9).piv.length = f2 at *
  generalize (pourK cN pN 0 kN 9).buf.length = f3 at *
  generalize (pourK cN pN 0 kN 9).lev = l2 at *
  clear s1 s2 s3 s4 t1 t2 t3 t4 m0 m1 n0 n1 hs
  go_upto_region 4 with fail
  obtain ⟨a3, a4⟩ := alloc2_at w2 (.cells #[.int .i64 l1, .slice A1 e1 c1, .slice A2 e2 c2, .slice (some ⟨b3, o3, none⟩) 1 c3, .slice A4 e4 c4] 29) (.cells #[.int .i64 l2, .slice B1 f1 d1, .slice B2 f2 d2, .slice B3 f3 d3, .slice (some ⟨b5, o5, none⟩) 1 d4] 29)
  have hS8 := (Chg.alloc (S := fun _ => False) w2 (.cells #[.int .i64 l1, .slice A1 e1 c1, .slice A2 e2 c2, .slice (some ⟨b3, o3, none⟩) 1 c3, .slice A4 e4 c4] 29)).allocs (.cells #[.int .i64 l2, .slice B1 f1 d1, .slice B2 f2 d2, .slice B3 f3 d3, .slice (some ⟨b5, o5, none⟩) 1 d4] 29)
  have HA := Lib.hid (And.intro a3 a4)
  have HS8 := Lib.hid hS8
  clear a3 a4 hS8
  generalize (w2.alloc (.cells #[.int .i64 l1, .slice A1 e1 c1, .slice A2 e2 c2, .slice (some ⟨b3, o3, none⟩) 1 c3, .slice A4 e4 c4] 29)).alloc (.cells #[.int .i64 l2, .slice B1 f1 d1, .slice B2 f2 d2, .slice B3 f3 d3, .slice (some ⟨b5, o5, none⟩) 1 d4] 29) = w8 at *
  have hp := HS8.out.heap HG2.out.1 id
  have hk := HS8.out.heap HG2.out.2 id
  have p0 := heap_cell (j := 0) hp rfl
  have p1 := heap_cell (j := 1) hp rfl
  have p2 := heap_cell (j := 2) hp rfl
  have p3 := heap_cell (j := 3) hp rfl
  have p4 := heap_cell (j := 4) hp rfl
  have q0 := heap_cell (j := 0) hk rfl
  have q1 := heap_cell (j := 1) hk rfl
  have q2 := heap_cell (j := 2) hk rfl
  have q3 := heap_cell (j := 3) hk rfl
  have q4 := heap_cell (j := 4) hk rfl
  clear hp hk
  have HN9 := Lib.hid (heap_alloc_new w8 (.cells #[.int .i64 1, .slice (some ⟨w.heap.size, 0, none⟩) 2 2, .slice (some ⟨w.heap.size + 1, 0, none⟩) 1 1, .slice (some ⟨w.heap.size + 1 + 1, 0, none⟩) 2 2, .slice none 0 0, .int .i64 0, .slice none 0 0, .slice none 0 0, .slice none 0 0, .slice (some ⟨w.heap.size + 1 + 1 + 1 + 1, 0, none⟩) 1 1] 29))
  have hS9 := Chg.alloc (S := fun _ => False) w8 (.cells #[.int .i64 1, .slice (some ⟨w.heap.size, 0, none⟩) 2 2, .slice (some ⟨w.heap.size + 1, 0, none⟩) 1 1, .slice (some ⟨w.heap.size + 1 + 1, 0, none⟩) 2 2, .slice none 0 0, .int .i64 0, .slice none 0 0, .slice none 0 0, .slice none 0 0, .slice (some ⟨w.heap.size + 1 + 1 + 1 + 1, 0, none⟩) 1 1] 29)
  have HV := Lib.hid (value14 (l := 1) kA (by decide) (heap_cell (j := 0) HN9.out rfl) (heap_cell (j := 1) HN9.out rfl) (heap_cell (j := 2) HN9.out rfl) (heap_cell (j := 3) HN9.out rfl) (heap_cell (j := 4) HN9.out rfl) (HM2.out.still (HS8.out.trans hS9)) pN_rises (by decide) posA rfl rfl)
  have HS9 := Lib.hid hS9
  clear hS9
  go_wp2_with fail
  refine HV.out.mono ?_
  rintro e w10 ⟨rfl, hs⟩
  have hS10 := HS8.out.trans (HS9.out.trans hs)
  have r3 := heap_cell (j := 3) ((HS9.out.trans hs).heap HA.out.1 id) rfl
  have r4 := heap_cell (j := 4) ((HS9.out.trans hs).heap HA.out.2 id) rfl
  have n0 := hS10.cell HNN.out.1 id
  have n1 := hS10.cell HNN.out.2 id
  have HFIN := Lib.hid (HS2.out.trans hS10)
  clear hS10 hs p0 p1 p2 p3 p4 q0 q1 q2 q3 q4
  have hk1 : ((⟨kA, false, k1⟩ : Msg).v).1 = ⟨#[49]⟩ := rfl
  go_wp2
  go_ret
  exact ⟨rfl, HFIN.out⟩
end Go.Proofs.Ytekoibglogoaaaa
