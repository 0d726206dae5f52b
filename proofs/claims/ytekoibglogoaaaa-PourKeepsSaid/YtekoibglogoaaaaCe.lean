/- Spans, by their contracts. -/
import Derived.Test.YtekoibglogoaaaaCd
namespace Go.Proofs.Ytekoibglogoaaaa
open Go Go.RowKit Go.Shelf
set_option linter.unusedVariables false
set_option linter.unusedSimpArgs false

structure Sp where
  lo : K
  hi : K
  top : Bool
def Sp.v (s : Sp) : Value := .agg #[.string s.lo.1, .string s.hi.1, .bool s.top]
def inSp (s : Sp) (k : K) : Bool := ke s.lo k && (s.top || kt k s.hi)
def emptySp (s : Sp) : Bool := !s.top && ke s.hi s.lo

theorem bytesLess_kt (a b : K) : Op.bytesLess a.1.toList b.1.toList = kt a b := by
  rw [bytesLess_eq, ByteArray.toList_eq, ByteArray.toList_eq]; rfl
theorem run_leq_str (a b : K) (w : World) : (binOp .leq 9 (.string a.1) (.string b.1)).run Try.prog w = .ok (.bool (ke a b)) w := by
  have h := bytesLess_kt a b
  have h2 := bytesLess_kt b a
  simp only [binOp, Op.stringOp, h]
  simp
  rw [Bool.eq_iff_iff, ke_iff]
  simp only [Bool.or_eq_true, beq_iff_eq]
  constructor
  · rintro (h | h)
    · exact .inl h
    · exact .inr (kl_inj (by unfold kl; rw [← ByteArray.toList_eq, ← ByteArray.toList_eq, h]))
  · rintro (h | rfl)
    · exact .inl h
    · exact .inr rfl
theorem kc_le_kt (a b : K) : decide (kc a b ≤ 0) = ke a b := by
  rw [Bool.eq_iff_iff]; simp only [decide_eq_true_eq]; exact kc_le
theorem kc_lt_kt (a b : K) : decide (kc a b < 0) = kt a b := by
  rw [Bool.eq_iff_iff]; simp only [decide_eq_true_eq]; exact kc_lt

set_option maxRecDepth 100000 in
theorem in1_ (s : Sp) (k : K) (w : World) : Calls Try.prog 52 #[s.v, .string k.1] w fun e w' => e = .returned (.bool (inSp s k)) ∧ Still w w' := by
  obtain ⟨lo, hi, top⟩ := s
  unfold Sp.v inSp
  simp only
  cases h1 : ke lo k with
  | false =>
    have H1 : ¬ kc lo k ≤ 0 := fun h => by rw [kc_le.1 h] at h1; simp at h1
    have H1' : decide (kc lo k ≤ 0) = false := decide_eq_false H1
    clear h1 H1
    go_enter Try.func52, Try.ntmps52
    go_wp2_with fail
    refine (rcompare_s lo k _).mono ?_
    rintro e w1 ⟨rfl, hs⟩
    go_wp2
    go_ret
    exact ⟨rfl, (Chg.alloc w _).trans hs⟩
  | true =>
    have H1 : kc lo k ≤ 0 := kc_le.2 h1
    have H1' : decide (kc lo k ≤ 0) = true := decide_eq_true H1
    clear h1 H1
    cases top with
    | true =>
      go_enter Try.func52, Try.ntmps52
      go_wp2_with fail
      refine (rcompare_s lo k _).mono ?_
      rintro e w1 ⟨rfl, hs⟩
      have k2 : w1.cell? ⟨w.heap.size, 2, none⟩ = some (.bool true) := hs.cell (heap_cell (heap_alloc_new w _) rfl) id
      go_wp2
      go_ret
      exact ⟨rfl, (Chg.alloc w _).trans hs⟩
    | false =>
      have HL := Lib.hid (kc_lt_kt k hi)
      go_enter Try.func52, Try.ntmps52
      go_wp2_with fail
      refine (rcompare_s lo k _).mono ?_
      rintro e w1 ⟨rfl, hs⟩
      have k2 : w1.cell? ⟨w.heap.size, 2, none⟩ = some (.bool false) := hs.cell (heap_cell (heap_alloc_new w _) rfl) id
      have k1 : w1.cell? ⟨w.heap.size, 1, none⟩ = some (.string hi.1) := hs.cell (heap_cell (heap_alloc_new w _) rfl) id
      go_wp2_with fail
      refine (rcompare_s k hi _).mono ?_
      rintro e w2 ⟨rfl, hs2⟩
      go_wp2
      go_ret
      rw [← HL.out]
      exact ⟨by simp, ((Chg.alloc w _).trans hs).trans hs2⟩

theorem rempty (s : Sp) (w : World) : Calls Try.prog 29 #[s.v] w fun e w' => e = .returned (.bool (!inSp s s.lo)) ∧ Still w w' := by
  have HI := Lib.hid (in1_ s s.lo)
  generalize hg : inSp s s.lo = g at *
  have HG := Lib.hid hg
  clear hg
  obtain ⟨lo, hi, top⟩ := s
  unfold Sp.v at *
  simp only at *
  go_enter Try.func29, Try.ntmps29
  go_wp2_with fail
  refine (HI.out _).mono ?_
  rintro e w1 ⟨rfl, hs⟩
  go_wp2
  go_ret
  exact ⟨rfl, (Chg.alloc w _).trans hs⟩

theorem lempty (s : Sp) (w : World) : Calls Try.prog 59 #[s.v] w fun e w' => e = .returned (.bool (emptySp s)) ∧ Still w w' := by
  obtain ⟨lo, hi, top⟩ := s
  unfold Sp.v emptySp
  simp only
  have hle := run_leq_str hi lo
  cases top with
  | true =>
    go_enter Try.func59, Try.ntmps59
    go_wp2
    go_ret
    exact ⟨rfl, Chg.alloc w _⟩
  | false =>
    go_enter Try.func59, Try.ntmps59
    go_wp2
    go_ret
    exact ⟨by simp, Chg.alloc w _⟩

theorem lall (w : World) : Calls Try.prog 17 #[] w fun e w' => e = .returned (Sp.v ⟨k0, k0, true⟩) ∧ Still w w' := by
  go_enter Try.func17, Try.ntmps17
  go_wp2
  refine bodyPost_ret (v := Sp.v ⟨k0, k0, true⟩) (by simp [results, Try.results17, go_sem, Sp.v, k0]) rfl ?_
  exact ⟨rfl, Chg.alloc w _⟩
end Go.Proofs.Ytekoibglogoaaaa
