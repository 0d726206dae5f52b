/- Nodes that are alike; finding a message; what nodes say of a key. -/
import Derived.Test.YtekoibglogoaaaaEa
namespace Go.Proofs.Ytekoibglogoaaaa
open Go Go.RowKit Go.Shelf
set_option linter.unusedVariables false
set_option linter.unusedSimpArgs false

theorem BoolP.yes {p : Prop} (hp : p) {w : World} {e : Ending} {w' : World} (h : BoolP p w e w') : e = .returned (.bool true) ∧ Still w w' := by
  obtain ⟨b, rfl, hb, hs⟩ := h
  exact ⟨by rw [hb.out.2 hp], hs⟩
set_option maxRecDepth 100000 in
set_option maxHeartbeats 2000000 in
theorem same13 {n : Nd} {w : World} {va vb : Value} (ha : NodeV w va n) (hb : NodeV w vb n) : Calls Try.prog 9 #[va, vb] w fun e w' => e = .returned (.bool true) ∧ Still w w' := by
  obtain ⟨a1, a2, a3, a4, rfl, ha1, ha2, ha3, ha4⟩ := ha
  obtain ⟨b1, b2, b3, b4, rfl, hb1, hb2, hb3, hb4⟩ := hb
  have C1 : Hid (∀ w', Still w w' → Calls Try.prog 24 #[a1, b1] w' fun e w'' => e = .returned (.bool true) ∧ Still w' w'') := Lib.hid (fun w' hs => (blocks (ha1.still hs) (hb1.still hs)).mono (fun e w'' h => h.yes rfl))
  have C2 : Hid (∀ w', Still w w' → Calls Try.prog 25 #[a2, b2] w' fun e w'' => e = .returned (.bool true) ∧ Still w' w'') := Lib.hid (fun w' hs => (same12 (ha2.still hs) (hb2.still hs)).mono (fun e w'' h => h.yes rfl))
  have C3 : Hid (∀ w', Still w w' → Calls Try.prog 26 #[a3, b3] w' fun e w'' => e = .returned (.bool true) ∧ Still w' w'') := Lib.hid (fun w' hs => (same10 (ha3.still hs) (hb3.still hs)).mono (fun e w'' h => h.yes rfl))
  have C4 : Hid (∀ w', Still w w' → Calls Try.prog 27 #[a4, b4] w' fun e w'' => e = .returned (.bool true) ∧ Still w' w'') := Lib.hid (fun w' hs => (same11 (ha4.still hs) (hb4.still hs)).mono (fun e w'' h => h.yes rfl))
  clear ha1 ha2 ha3 ha4 hb1 hb2 hb3 hb4
  obtain ⟨g1, g2⟩ := alloc2_at w (.cells #[.int .i64 n.lev, a1, a2, a3, a4] 29) (.cells #[.int .i64 n.lev, b1, b2, b3, b4] 29)
  have HS0 := Lib.hid ((Chg.alloc (S := fun _ => False) w (.cells #[.int .i64 n.lev, a1, a2, a3, a4] 29)).allocs (.cells #[.int .i64 n.lev, b1, b2, b3, b4] 29))
  have HG := Lib.hid (And.intro g1 g2)
  clear g1 g2
  have e0 : (n.lev == n.lev) = true := beq_self_eq_true _
  go_enter Try.func9, Try.ntmps9
  have p1 := heap_cell (j := 1) HG.out.1 rfl
  have q1 := heap_cell (j := 1) HG.out.2 rfl
  go_wp2_with fail
  refine (C1.out _ HS0.out).mono ?_
  rintro e w1 ⟨rfl, hs1⟩
  have HS1 := Lib.hid (HS0.out.trans hs1)
  have p2 := heap_cell (j := 2) (hs1.heap HG.out.1 id) rfl
  have q2 := heap_cell (j := 2) (hs1.heap HG.out.2 id) rfl
  have HG1 := Lib.hid (And.intro (hs1.heap HG.out.1 id) (hs1.heap HG.out.2 id))
  clear p1 q1 hs1
  go_wp2_with fail
  refine (C2.out _ HS1.out).mono ?_
  rintro e w2 ⟨rfl, hs2⟩
  have HS2 := Lib.hid (HS1.out.trans hs2)
  have p3 := heap_cell (j := 3) (hs2.heap HG1.out.1 id) rfl
  have q3 := heap_cell (j := 3) (hs2.heap HG1.out.2 id) rfl
  have HG2 := Lib.hid (And.intro (hs2.heap HG1.out.1 id) (hs2.heap HG1.out.2 id))
  clear p2 q2 hs2
  go_wp2_with fail
  refine (C3.out _ HS2.out).mono ?_
  rintro e w3 ⟨rfl, hs3⟩
  have HS3 := Lib.hid (HS2.out.trans hs3)
  have p4 := heap_cell (j := 4) (hs3.heap HG2.out.1 id) rfl
  have q4 := heap_cell (j := 4) (hs3.heap HG2.out.2 id) rfl
  clear p3 q3 hs3
  go_wp2_with fail
  refine (C4.out _ HS3.out).mono ?_
  rintro e w4 ⟨rfl, hs4⟩
  have HS4 := Lib.hid (HS3.out.trans hs4)
  clear p4 q4 hs4
  go_wp2
  go_ret
  exact ⟨rfl, HS4.out⟩

set_option maxRecDepth 100000 in
theorem find37 {w : World} {v : Value} {xs : List Msg} (h : Sl encM 3 w v xs) (hr : Rises Msg.k xs) (hn : xs.length ≤ 1000000) (key : K) {m : Msg} (hx : xs[posN Msg.k xs key]? = some m) (hk : m.k = key) :
    Calls Try.prog 37 #[v, .string key.1] w fun e w' => e = .returned (.tuple #[.agg #[.string m.k.1, .bool m.d, .string m.v.1], .bool true]) ∧ Still w w' := by
  subst hk
  have HBS := Lib.hid (bsf57 (h.still (Chg.alloc w (.cells #[.string ⟨#[]⟩, .bool false, .string ⟨#[]⟩] 45))) hr hn m.k)
  obtain ⟨A, c, rfl, qc1, qc2⟩ := h.form
  have hi : posN Msg.k xs m.k < xs.length := (List.getElem?_eq_some_iff.1 hx).1
  obtain ⟨b, off, rfl, hb, x0, x1, x2⟩ := h.msg _ hi
  have hxe : xs[posN Msg.k xs m.k] = m := by rw [ge_some hi] at hx; simpa using hx
  rw [hxe] at x0 x1 x2
  have HF : Hid (isAt Msg.k xs (posN Msg.k xs m.k) m.k = true) := Lib.hid (by unfold isAt; rw [hx]; exact decide_eq_true rfl)
  have HC0 := Lib.hid (And.intro x0 (And.intro x1 x2))
  have HZ := Lib.hid (heap_alloc_new w (.cells #[.string ⟨#[]⟩, .bool false, .string ⟨#[]⟩] 45))
  clear h hr hx hxe x0 x1 x2
  unfold BsfP at HBS
  rw [HF.out] at HBS
  generalize posN Msg.k xs m.k = i at *
  go_enter Try.func37, Try.ntmps37
  go_wp2_with fail
  refine HBS.out.mono ?_
  rintro e w1 ⟨rfl, hs⟩
  have hS := (Chg.alloc (S := fun _ => False) w (.cells #[.string ⟨#[]⟩, .bool false, .string ⟨#[]⟩] 45)).trans hs
  have x0 := hS.cell HC0.out.1 id
  have x1 := hS.cell HC0.out.2.1 id
  have x2 := hS.cell HC0.out.2.2 id
  have hz := hs.heap HZ.out id
  have z0 := heap_cell (j := 0) hz rfl
  have z1 := heap_cell (j := 1) hz rfl
  have z2 := heap_cell (j := 2) hz rfl
  have f0 := heap_free (j := 0) hz
  have f1 := heap_free (j := 1) hz
  have f2 := heap_free (j := 2) hz
  have HY := Lib.hid (set3_heap hz (.string m.k.1) (.bool m.d) (.string m.v.1))
  have HSS := Lib.hid (hS.then (set3c w1 w.heap.size (.string m.k.1) (.bool m.d) (.string m.v.1)) (fun i hi => .inr (by rw [show i = w.heap.size from hi]; exact Nat.le_refl _)))
  clear hS hs hz
  have y0 := heap_cell (j := 0) HY.out rfl
  have y1 := heap_cell (j := 1) HY.out rfl
  have y2 := heap_cell (j := 2) HY.out rfl
  go_wp2
  refine bodyPost_ret (v := .tuple #[.agg #[.string m.k.1, .bool m.d, .string m.v.1], .bool true]) (by simp [results, Try.results37, go_sem, *]) rfl ?_
  exact ⟨rfl, HSS.out⟩

set_option maxRecDepth 100000 in
theorem value14 {w : World} {b n1 c1 n2 c2 n4 c4 : Nat} {A1 A2 A4 : Option Addr} {l : Int} {v3 : Value} {xs : List Msg} (key : K) {m : Msg} (hl : 0 < l)
    (q0 : w.cell? ⟨b, 0, none⟩ = some (.int .i64 l)) (q1 : w.cell? ⟨b, 1, none⟩ = some (.slice A1 n1 c1)) (q2 : w.cell? ⟨b, 2, none⟩ = some (.slice A2 n2 c2)) (q3 : w.cell? ⟨b, 3, none⟩ = some v3) (q4 : w.cell? ⟨b, 4, none⟩ = some (.slice A4 n4 c4))
    (h : Sl encM 3 w v3 xs) (hr : Rises Msg.k xs) (hn : xs.length ≤ 1000000) (hx : xs[posN Msg.k xs key]? = some m) (hk : m.k = key) (hd : m.d = false) :
    Calls Try.prog 14 #[.slice (some ⟨b, 0, none⟩) 2 2, .string key.1] w fun e w' => e = .returned (.tuple #[.string m.v.1, .bool true]) ∧ Still w w' := by
  have HF : Hid (∀ w', Still w w' → Calls Try.prog 37 #[v3, .string key.1] w' fun e w'' => e = .returned (.tuple #[.agg #[.string m.k.1, .bool m.d, .string m.v.1], .bool true]) ∧ Still w' w'') := Lib.hid (fun w' hs => find37 (h.still hs) hr hn key hx hk)
  obtain ⟨A3, c3, rfl, -, -⟩ := h.form
  have HC := Lib.hid (And.intro q0 (And.intro q1 (And.intro q2 (And.intro q3 q4))))
  rw [hd] at HF
  clear h hr hx q0 q1 q2 q3 q4
  have e0 : (l == 0) = false := by rw [beq_eq_false_iff_ne]; omega
  go_enter Try.func14, Try.ntmps14
  go_wp2_with fail
  go_loopw [12] (fun i wr => i = .int .i64 0 ∧ w = wr) (fun i _ => 2 - nv i)
  case atStart => exact ⟨rfl, rfl⟩
  case round =>
    obtain ⟨rfl, rfl⟩ := hrel
    obtain ⟨q0, q1, q2, q3, q4⟩ := HC.out
    have HN := Lib.hid (heap_alloc_new w (.cells #[.int .i64 l, .slice A1 n1 c1, .slice A2 n2 c2, .slice A3 xs.length c3, .slice A4 n4 c4] 29))
    have n0 := heap_cell (j := 0) HN.out rfl
    have n3 := heap_cell (j := 3) HN.out rfl
    go_wp2_with fail
    refine (HF.out _ (Chg.alloc w _)).mono ?_
    rintro e w2 ⟨rfl, hs⟩
    have HS := Lib.hid ((Chg.alloc w _).trans hs)
    clear hs
    go_wp2
    refine bodyPost_ret (v := .tuple #[.string m.v.1, .bool true]) (by simp [results, Try.results14, go_sem, *]) rfl ?_
    exact ⟨rfl, HS.out.trans (Chg.alloc _ _)⟩
end Go.Proofs.Ytekoibglogoaaaa
