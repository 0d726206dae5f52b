/- Nodes that may be: the whole contract. -/
import Derived.Test.YtekoibglogoaaaaCl
namespace Go.Proofs.Ytekoibglogoaaaa
open Go Go.RowKit Go.Shelf
set_option linter.unusedVariables false
set_option linter.unusedSimpArgs false

/-- A node that may be. -/
def RightP (c : Conf) (s : Sp) (n : Nd) : Prop := (n.lev = 0 ∧ OuterP c s n) ∨ (0 < n.lev ∧ InnerP c s n)
set_option maxRecDepth 100000 in
set_option maxHeartbeats 4000000 in
theorem right13 (c : Conf) (s : Sp) {w : World} {v : Value} {n : Nd} (h : NodeV w v n) (hsm : n.piv.length ≤ 4294967296) (hsm2 : n.prs.length ≤ 4294967296) : Calls Try.prog 11 #[.agg c.vs, s.v, v] w (BoolP (RightP c s n) w) := by
  have HO : Hid (∀ w', Still w w' → Calls Try.prog 30 #[.agg c.vs, s.v, v] w' (BoolP (OuterP c s n) w')) := Lib.hid (fun w' hs => outer13 c s (h.still hs) hsm2)
  have HI : Hid (∀ w', Still w w' → Calls Try.prog 31 #[.agg c.vs, s.v, v] w' (BoolP (InnerP c s n) w')) := Lib.hid (fun w' hs => inner13 c s (h.still hs) hsm)
  obtain ⟨v1, v2, v3, v4, rfl, h1, h2, h3, h4⟩ := h
  have HB := Lib.hid (Boxed.new c s n h1 h2 h3 h4)
  clear h1 h2 h3 h4 hsm hsm2
  have hl : n.lev < 0 ∨ n.lev = 0 ∨ 0 < n.lev := by omega
  have HD : Hid (RightP c s n ↔ (n.lev = 0 ∧ OuterP c s n) ∨ (0 < n.lev ∧ InnerP c s n)) := Lib.hid Iff.rfl
  generalize RightP c s n = RP at *
  generalize OuterP c s n = OP at *
  generalize InnerP c s n = IP at *
  have HT : Hid (∀ w', RP → Still w w' → BoolP RP w (.returned (.bool true)) w') := Lib.hid (fun w' => BoolP.t)
  have HF : Hid (∀ w', ¬ RP → Still w w' → BoolP RP w (.returned (.bool false)) w') := Lib.hid (fun w' => BoolP.f)
  obtain ⟨lev, kids, piv, buf, prs⟩ := n
  simp only at *
  unfold Sp.v Conf.vs at *
  have HS1 := Lib.hid HB.out.still
  obtain ⟨p0, p1, p2⟩ := HB.out.span
  obtain ⟨m0, m1, m2, m3, m4⟩ := HB.out.node
  obtain ⟨q0, q1, q2, q3, q4, q5, q6, q7⟩ := HB.out.conf
  clear HB
  rcases hl with hl | hl | hl
  · have HN : Hid (¬ RP) := Lib.hid (fun h => by
      rcases HD.out.1 h with ⟨e, -⟩ | ⟨e, -⟩
      · omega
      · omega)
    go_enter Try.func11, Try.ntmps11
    go_wp2
    go_ret
    exact HF.out _ HN.out HS1.out
  · have HD1 : Hid (RP ↔ OP) := Lib.hid ⟨fun h => by
      rcases HD.out.1 h with ⟨_, e⟩ | ⟨e, -⟩
      · exact e
      · omega, fun h => HD.out.2 (.inl ⟨hl, h⟩)⟩
    clear HD HI
    subst hl
    go_enter Try.func11, Try.ntmps11
    go_wp2_with fail
    refine (HO.out _ HS1.out).mono ?_
    rintro e w2 ⟨r, rfl, hr, hs⟩
    have HS := Lib.hid (HS1.out.trans hs)
    clear hs p0 p1 p2 m0 m1 m2 m3 m4 q0 q1 q2 q3 q4 q5 q6 q7
    cases r with
    | false =>
      have HN : Hid (¬ RP) := Lib.hid (fun h => by have := hr.out.2 (HD1.out.1 h); simp at this)
      go_wp2
      go_ret
      exact HF.out _ HN.out HS.out
    | true =>
      have HN : Hid RP := Lib.hid (HD1.out.2 (hr.out.1 (by trivial)))
      go_wp2
      go_ret
      exact HT.out _ HN.out HS.out
  · have HD1 : Hid (RP ↔ IP) := Lib.hid ⟨fun h => by
      rcases HD.out.1 h with ⟨e, -⟩ | ⟨_, e⟩
      · omega
      · exact e, fun h => HD.out.2 (.inr ⟨hl, h⟩)⟩
    have hl2 : (lev == 0) = false := by rw [beq_eq_false_iff_ne]; omega
    clear HD HO
    go_enter Try.func11, Try.ntmps11
    go_wp2_with fail
    refine (HI.out _ HS1.out).mono ?_
    rintro e w2 ⟨r, rfl, hr, hs⟩
    have HS := Lib.hid (HS1.out.trans hs)
    clear hs p0 p1 p2 m0 m1 m2 m3 m4 q0 q1 q2 q3 q4 q5 q6 q7
    cases r with
    | false =>
      have HN : Hid (¬ RP) := Lib.hid (fun h => by have := hr.out.2 (HD1.out.1 h); simp at this)
      go_wp2
      go_ret
      exact HF.out _ HN.out HS.out
    | true =>
      have HN : Hid RP := Lib.hid (HD1.out.2 (hr.out.1 (by trivial)))
      go_wp2
      go_ret
      exact HT.out _ HN.out HS.out
end Go.Proofs.Ytekoibglogoaaaa
