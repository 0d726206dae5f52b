/- Comparisons of strings, by their contracts. -/
import Derived.Test.YtekoibglogoaaaaShelf
import Derived.Test.YtekoibglogoaaaaKy
import Derived.Test.YtekoibglogoaaaaWl
namespace Go.Proofs.Ytekoibglogoaaaa
open Go Go.RowKit Go.Shelf
set_option linter.unusedVariables false
set_option linter.unusedSimpArgs false

theorem compare (a b : K) (w : World) : Calls Try.prog 49 #[.string a.1, .string b.1] w fun e w' => e = .returned (.int .i64 (kc a b)) ∧ w = w' := by
  go_enter Try.func49, Try.ntmps49
  go_wp2_with (go_at_call 63; refine (Try.strings_Compare a.1 b.1 w).mono ?_; rintro e w' ⟨rfl, rfl⟩)
  go_ret
  rw [← cmp_kc]
  exact ⟨rfl, rfl⟩

theorem cb_step {x y : List UInt8} {i : Nat} (hx : i < x.length) (hy : i < y.length) (he : x[i] = y[i]) : Lib.compareBytes (x.drop i) (y.drop i) = Lib.compareBytes (x.drop (i + 1)) (y.drop (i + 1)) := by
  rw [List.drop_eq_getElem_cons hx, List.drop_eq_getElem_cons hy, he, Lib.compareBytes]
  simp
theorem cb_lt {x y : List UInt8} {i : Nat} (hx : i < x.length) (hy : i < y.length) (he : x[i] < y[i]) : Lib.compareBytes (x.drop i) (y.drop i) = -1 := by
  rw [List.drop_eq_getElem_cons hx, List.drop_eq_getElem_cons hy, Lib.compareBytes, if_pos he]
theorem cb_gt {x y : List UInt8} {i : Nat} (hx : i < x.length) (hy : i < y.length) (he : y[i] < x[i]) : Lib.compareBytes (x.drop i) (y.drop i) = 1 := by
  rw [List.drop_eq_getElem_cons hx, List.drop_eq_getElem_cons hy, Lib.compareBytes, if_neg (fun h => UInt8.lt_asymm he h), if_pos he]
theorem cb_end {x y : List UInt8} {i : Nat} (h : x.length ≤ i ∨ y.length ≤ i) (hx : i ≤ x.length) (hy : i ≤ y.length) : Lib.compareBytes (x.drop i) (y.drop i) = if x.length < y.length then -1 else if y.length < x.length then 1 else 0 := by
  rcases Nat.lt_trichotomy x.length y.length with h1 | h1 | h1
  · rw [if_pos h1]
    have e : x.drop i = [] := List.drop_eq_nil_of_le (by omega)
    rw [e, List.drop_eq_getElem_cons (show i < y.length by omega), Lib.compareBytes]
  · rw [if_neg (by omega), if_neg (by omega), List.drop_eq_nil_of_le (by omega), List.drop_eq_nil_of_le (by omega), Lib.compareBytes]
  · rw [if_neg (by omega), if_pos h1]
    have e : y.drop i = [] := List.drop_eq_nil_of_le (by omega)
    rw [e, List.drop_eq_getElem_cons (show i < x.length by omega), Lib.compareBytes]

def CmpP (a b : K) (w : World) (e : Ending) (w' : World) : Prop := e = .returned (.int .i64 (kc a b)) ∧ ∃ m, w' = w.drewN m
theorem rcompare (a b : K) (w : World) : Calls Try.prog 28 #[.string a.1, .string b.1] w (CmpP a b w) := by
  have ha := a.2
  have hb := b.2
  have hka : (kl a).length = a.1.size := Array.length_toList
  have hkb : (kl b).length = b.1.size := Array.length_toList
  have HK := Lib.hid (show (kl a).length = a.1.size ∧ (kl b).length = b.1.size from ⟨hka, hkb⟩)
  clear hka hkb
  go_enter Try.func28, Try.ntmps28
  go_wp2_with fail
  go_loopw [5] (fun i wr => ∃ k : Nat, k ≤ a.1.size ∧ k ≤ b.1.size ∧ i = .int .i64 (k : Nat) ∧ Hid (kc a b = Lib.compareBytes ((kl a).drop k) ((kl b).drop k)) ∧ ∃ m, wr = w.drewN m) (fun i _ => a.1.size - (match i with | .int _ n => n.toNat | _ => 0))
  case atStart => exact ⟨0, Nat.zero_le _, Nat.zero_le _, rfl, Lib.hid (by rw [← cmp_kc]; rfl), 0, rfl⟩
  case round =>
    obtain ⟨k, hka, hkb, rfl, hc, m, rfl⟩ := hrel
    by_cases h : k < a.1.size ∧ k < b.1.size
    · obtain ⟨h1, h2⟩ := h
      have g1 : k < (kl a).length := by have := HK.out.1; omega
      have g2 : k < (kl b).length := by have := HK.out.2; omega
      have e1 : (kl a)[k] = a.1[k] := rfl
      have e2 : (kl b)[k] = b.1[k] := rfl
      have HE := Lib.hid (show (kl a)[k] = a.1[k] ∧ (kl b)[k] = b.1[k] from ⟨e1, e2⟩)
      clear e1 e2
      by_cases c1 : a.1[k].toNat < b.1[k].toNat
      · have HC := Lib.hid (show kc a b = -1 from by rw [hc.out]; exact cb_lt g1 g2 (by rw [HE.out.1, HE.out.2]; exact c1))
        go_wp2_with fail
        go_region
        go_wp2
        go_ret
        exact ⟨by rw [HC.out]; rfl, _, rfl⟩
      · by_cases c2 : b.1[k].toNat < a.1[k].toNat
        · have HC := Lib.hid (show kc a b = 1 from by rw [hc.out]; exact cb_gt g1 g2 (by rw [HE.out.1, HE.out.2]; exact c2))
          go_wp2_with fail
          go_region
          go_wp2_with fail
          go_region
          go_wp2
          go_ret
          exact ⟨by rw [HC.out]; rfl, _, rfl⟩
        · have HC := Lib.hid (show kc a b = Lib.compareBytes ((kl a).drop (k + 1)) ((kl b).drop (k + 1)) from by
            rw [hc.out]
            exact cb_step g1 g2 (by rw [HE.out.1, HE.out.2]; exact UInt8.toNat_inj.1 (by omega)))
          go_wp2_with fail
          go_region
          go_wp2_with fail
          go_region
          go_wp2
          go_roundw
          case rel => exact ⟨k + 1, by omega, by omega, by go_num, HC, _, rfl⟩
          case measure => simp; omega
    · have HC := Lib.hid (show kc a b = if a.1.size < b.1.size then -1 else if b.1.size < a.1.size then 1 else 0 from by
        rw [hc.out, ← HK.out.1, ← HK.out.2]
        exact cb_end (by have := HK.out.1; have := HK.out.2; omega) (by have := HK.out.1; omega) (by have := HK.out.2; omega))
      have key : (¬ k < a.1.size) ∨ (k < a.1.size ∧ ¬ k < b.1.size) := by omega
      clear h hc
      rcases Nat.lt_trichotomy a.1.size b.1.size with h1 | h1 | h1
      · have HD := Lib.hid (show kc a b = -1 from by rw [HC.out, if_pos h1])
        rcases key with key | ⟨key, key2⟩
        all_goals
          go_wp2
          go_ret
          exact ⟨by rw [HD.out]; rfl, _, rfl⟩
      · have HD := Lib.hid (show kc a b = 0 from by rw [HC.out, if_neg (by omega), if_neg (by omega)])
        have h2 : ¬ a.1.size < b.1.size := by omega
        have h3 : ¬ b.1.size < a.1.size := by omega
        clear h1
        rcases key with key | ⟨key, key2⟩
        all_goals
          go_wp2
          go_ret
          exact ⟨by rw [HD.out]; rfl, _, rfl⟩
      · have HD := Lib.hid (show kc a b = 1 from by rw [HC.out, if_neg (by omega), if_pos h1])
        have h2 : ¬ a.1.size < b.1.size := by omega
        rcases key with key | ⟨key, key2⟩
        all_goals
          go_wp2
          go_ret
          exact ⟨by rw [HD.out]; rfl, _, rfl⟩
/-- The same, for a region that draws. -/
theorem rcompare_q (a b : K) (w : World) (n : Nat) : Calls Try.prog 28 #[.string a.1, .string b.1] (w.drewN n) fun e w'' => e = .returned (.int .i64 (kc a b)) ∧ ∃ m, w'' = w.drewN m :=
  (rcompare a b (w.drewN n)).mono fun _ _ ⟨he, m, hm⟩ => ⟨he, n + m, by rw [hm, World.drewN_drewN]⟩
theorem rcompare_s (a b : K) (w : World) : Calls Try.prog 28 #[.string a.1, .string b.1] w fun e w' => e = .returned (.int .i64 (kc a b)) ∧ Still w w' :=
  (rcompare a b w).mono fun _ _ ⟨he, m, hm⟩ => ⟨he, by rw [hm]; exact Chg.drewN _ _⟩
end Go.Proofs.Ytekoibglogoaaaa
