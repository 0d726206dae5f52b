/- Keys: strings by their bytes, and how they stand. No program in sight. -/
import Derived.Lib.Bytealg
import Derived.Lib.MinMaxS
namespace Go.Proofs.Ytekoibglogoaaaa
open Go
set_option linter.unusedVariables false

/-- A string that may be: its length is an int. -/
abbrev K := { s : ByteArray // s.size ≤ 9223372036854775807 }
/-- The empty string. -/
def k0 : K := ⟨⟨#[]⟩, by decide⟩
/-- The bytes of a string. -/
def kl (a : K) : List UInt8 := a.1.data.toList
/-- a stands ahead of b. -/
def kt (a b : K) : Bool := decide (kl a < kl b)
/-- a stands ahead of b, or is b. -/
def ke (a b : K) : Bool := !kt b a

theorem kl_inj {a b : K} (h : kl a = kl b) : a = b := by
  obtain ⟨⟨x⟩, hx⟩ := a
  obtain ⟨⟨y⟩, hy⟩ := b
  apply Subtype.ext
  unfold kl at h
  simp only [ByteArray.mk.injEq]
  exact Array.toList_inj.1 h
theorem kl_eq {a b : K} : kl a = kl b ↔ a = b := ⟨kl_inj, fun h => by rw [h]⟩
theorem kt_iff {a b : K} : kt a b = true ↔ kl a < kl b := by unfold kt; simp
theorem kt_irr (a : K) : kt a a = false := by unfold kt; simp [List.lt_irrefl]
theorem kt_trans {a b c : K} (h1 : kt a b = true) (h2 : kt b c = true) : kt a c = true := by
  rw [kt_iff] at *
  exact List.lt_trans h1 h2
theorem kt_total {a b : K} (h1 : kt a b = false) (h2 : kt b a = false) : a = b := by
  have h1' : ¬ kl a < kl b := by rw [← kt_iff, h1]; simp
  have h2' : ¬ kl b < kl a := by rw [← kt_iff, h2]; simp
  exact kl_inj (List.le_antisymm h2' h1')
theorem kt_asymm {a b : K} (h : kt a b = true) : kt b a = false := by
  cases h2 : kt b a with
  | false => rfl
  | true => have := kt_trans h h2; rw [kt_irr] at this; simp at this
theorem kt_ne {a b : K} (h : kt a b = true) : a ≠ b := fun e => by rw [e, kt_irr] at h; simp at h
theorem ke_iff {a b : K} : ke a b = true ↔ kt a b = true ∨ a = b := by
  unfold ke
  simp only [Bool.not_eq_true']
  constructor
  · intro h
    cases h2 : kt a b with
    | true => exact .inl rfl
    | false => exact .inr (kt_total h2 h)
  · rintro (h | rfl)
    · exact kt_asymm h
    · exact kt_irr a
theorem ke_refl (a : K) : ke a a = true := ke_iff.2 (.inr rfl)
theorem ke_kt {a b c : K} (h1 : ke a b = true) (h2 : kt b c = true) : kt a c = true := by
  rcases ke_iff.1 h1 with h | rfl
  · exact kt_trans h h2
  · exact h2
theorem kt_ke {a b c : K} (h1 : kt a b = true) (h2 : ke b c = true) : kt a c = true := by
  rcases ke_iff.1 h2 with h | rfl
  · exact kt_trans h1 h
  · exact h1
theorem ke_trans {a b c : K} (h1 : ke a b = true) (h2 : ke b c = true) : ke a c = true := by
  rcases ke_iff.1 h1 with h | rfl
  · exact ke_iff.2 (.inl (kt_ke h h2))
  · exact h2
theorem ke_anti {a b : K} (h1 : ke a b = true) (h2 : ke b a = true) : a = b := by
  rcases ke_iff.1 h1 with h | h
  · unfold ke at h2; rw [h] at h2; simp at h2
  · exact h
theorem not_kt {a b : K} : kt a b = false ↔ ke b a = true := by unfold ke; simp

/-- Go's comparison. -/
def kc (a b : K) : Int := if kt a b then -1 else if kt b a then 1 else 0
theorem cmpBytes_eq : ∀ (a b : List UInt8), Lib.compareBytes a b = if a < b then -1 else if b < a then 1 else 0
  | [], [] => by simp [Lib.compareBytes, List.lt_irrefl]
  | [], _ :: _ => by simp [Lib.compareBytes]
  | _ :: _, [] => by simp [Lib.compareBytes]
  | a :: r, b :: s => by
    unfold Lib.compareBytes
    by_cases h1 : a < b
    · rw [if_pos h1, if_pos (List.cons_lt_cons_iff.2 (.inl h1))]
    · rw [if_neg h1]
      by_cases h2 : b < a
      · rw [if_pos h2, if_neg (fun h => by
          rcases List.cons_lt_cons_iff.1 h with h | ⟨h, _⟩
          · exact h1 h
          · subst h; exact h1 h2), if_pos (List.cons_lt_cons_iff.2 (.inl h2))]
      · have e : a = b := UInt8.le_antisymm (UInt8.not_lt.1 h2) (UInt8.not_lt.1 h1)
        subst e
        rw [if_neg h2, cmpBytes_eq r s]
        simp only [List.cons_lt_cons_iff, h1, false_or, true_and]
theorem cmp_kc (a b : K) : Lib.compareBytes a.1.data.toList b.1.data.toList = kc a b := by
  rw [cmpBytes_eq]
  unfold kc kt kl
  by_cases h1 : a.1.data.toList < b.1.data.toList <;> by_cases h2 : b.1.data.toList < a.1.data.toList <;> simp [h1, h2]
theorem kc_self (a : K) : kc a a = 0 := by unfold kc; rw [kt_irr]; rfl
theorem kc_lt {a b : K} : kc a b < 0 ↔ kt a b = true := by
  unfold kc
  cases kt a b <;> cases kt b a <;> simp
theorem kc_gt {a b : K} : 0 < kc a b ↔ kt b a = true := by
  unfold kc
  cases h : kt a b with
  | true => simp [kt_asymm h]
  | false => cases kt b a <;> simp
theorem kc_zero {a b : K} : kc a b = 0 ↔ a = b := by
  constructor
  · intro h
    refine kt_total ?_ ?_
    · cases h1 : kt a b with
      | false => rfl
      | true => have := kc_lt.2 h1; omega
    · cases h1 : kt b a with
      | false => rfl
      | true => have := kc_gt.2 h1; omega
  · rintro rfl; exact kc_self a
theorem kc_le {a b : K} : kc a b ≤ 0 ↔ ke a b = true := by
  rw [ke_iff, ← kc_lt, ← kc_zero]; omega
theorem kc_ge {a b : K} : 0 ≤ kc a b ↔ ke b a = true := by
  rw [ke_iff, ← kc_gt, eq_comm (a := b), ← kc_zero]; omega
theorem kc_range (a b : K) : kc a b = -1 ∨ kc a b = 0 ∨ kc a b = 1 := by
  unfold kc; split
  · exact .inl rfl
  · split
    · exact .inr (.inr rfl)
    · exact .inr (.inl rfl)
/-- Nothing stands ahead of the empty string. -/
theorem kt_empty (a : K) : kt a k0 = false := by
  unfold kt kl k0
  simp only [decide_eq_false_iff_not]
  exact List.not_lt_nil _
end Go.Proofs.Ytekoibglogoaaaa
