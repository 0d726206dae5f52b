/- Where a key stands in a list that rises. -/
import Derived.Test.YtekoibglogoaaaaDa
namespace Go.Proofs.Ytekoibglogoaaaa
open Go Go.RowKit Go.Shelf
set_option linter.unusedVariables false
set_option linter.unusedSimpArgs false

theorem cmp58 (m : Msg) (key : K) (w : World) : Calls Try.prog 58 #[.agg #[.string m.k.1, .bool m.d, .string m.v.1], .string key.1] w fun e w' => e = .returned (.int .i64 (kc m.k key)) ∧ Still w w' := by
  have HC := compare m.k key
  go_enter Try.func58, Try.ntmps58
  go_wp2_with fail
  refine (HC _).mono ?_
  rintro e w1 ⟨rfl, rfl⟩
  go_wp2
  go_ret
  exact ⟨rfl, Chg.alloc w _⟩
theorem cmp46 (m : Pr) (key : K) (w : World) : Calls Try.prog 46 #[.agg #[.string m.k.1, .string m.v.1], .string key.1] w fun e w' => e = .returned (.int .i64 (kc m.k key)) ∧ Still w w' := by
  have HC := compare m.k key
  go_enter Try.func46, Try.ntmps46
  go_wp2_with fail
  refine (HC _).mono ?_
  rintro e w1 ⟨rfl, rfl⟩
  go_wp2
  go_ret
  exact ⟨rfl, Chg.alloc w _⟩

section
variable {α : Type} {f : α → K}
/-- How many keys are ahead of one. -/
def posN (f : α → K) (xs : List α) (key : K) : Nat := xs.countP fun x => kt (f x) key
/-- Is the one at a place this key's? -/
def isAt (f : α → K) (xs : List α) (i : Nat) (key : K) : Bool := match xs[i]? with | some x => decide (f x = key) | none => false
theorem Rises.lt {xs : List α} (h : Rises f xs) : ∀ (d i : Nat) (x y : α), xs[i]? = some x → xs[i + d + 1]? = some y → kt (f x) (f y) = true
  | 0, i, x, y, hx, hy => h i x y hx hy
  | d + 1, i, x, y, hx, hy => by
    have hl := (List.getElem?_eq_some_iff.1 hy).1
    have hz := ge_some (show i + d + 1 < xs.length by omega)
    exact kt_trans (Rises.lt h d i x _ hx hz) (h (i + d + 1) _ y hz hy)
theorem Rises.lt' {xs : List α} (h : Rises f xs) {i j : Nat} {x y : α} (hij : i < j) (hx : xs[i]? = some x) (hy : xs[j]? = some y) : kt (f x) (f y) = true := by
  obtain ⟨d, rfl⟩ : ∃ d, j = i + d + 1 := ⟨j - i - 1, by omega⟩
  exact h.lt d i x y hx hy
theorem pos_eq {xs : List α} {key : K} {i : Nat} (hi : i ≤ xs.length) (h1 : ∀ t x, t < i → xs[t]? = some x → kt (f x) key = true) (h2 : ∀ t x, i ≤ t → xs[t]? = some x → kt (f x) key = false) : posN f xs key = i := by
  unfold posN
  rw [← List.take_append_drop i xs, List.countP_append]
  have e1 : (xs.take i).countP (fun x => kt (f x) key) = i := by
    rw [List.countP_eq_length.2, List.length_take, Nat.min_eq_left hi]
    intro x hx
    obtain ⟨t, ht, rfl⟩ := List.mem_iff_getElem.1 hx
    rw [List.length_take] at ht
    rw [List.getElem_take]
    exact h1 t _ (by omega) (ge_some (by omega))
  have e2 : (xs.drop i).countP (fun x => kt (f x) key) = 0 := by
    rw [List.countP_eq_zero]
    intro x hx
    obtain ⟨t, ht, rfl⟩ := List.mem_iff_getElem.1 hx
    rw [List.length_drop] at ht
    rw [List.getElem_drop]
    rw [h2 (i + t) _ (by omega) (ge_some (by omega))]
    simp
  rw [e1, e2, Nat.add_zero]
end
theorem half (i j : Nat) (hj : i + j ≤ 9223372036854775807) : IntKind.i64.wrap ((i : Int) + (j : Int)) = (i : Int) + (j : Int) := by
  rw [IntKind.wrap_i64]; omega
def BsfP {α : Type} (f : α → K) (xs : List α) (key : K) (w : World) (e : Ending) (w' : World) : Prop := e = .returned (.tuple #[.int .i64 (posN f xs key), .bool (isAt f xs (posN f xs key) key)]) ∧ Still w w'
set_option maxRecDepth 100000 in
set_option maxHeartbeats 1000000 in
theorem bsf57 {w : World} {v : Value} {xs : List Msg} (h : Sl encM 3 w v xs) (hr : Rises Msg.k xs) (hn : xs.length ≤ 1000000) (key : K) : Calls Try.prog 57 #[v, .string key.1, .func (.func 58) #[] #[]] w (BsfP Msg.k xs key w) := by
  obtain ⟨A, c, rfl, qc1, qc2⟩ := h.form
  have H := Lib.hid h
  have HR := Lib.hid hr
  clear h hr
  go_enter Try.func57, Try.ntmps57
  go_wp2_with fail
  go_loopw [9, 10] (fun u v wr => ∃ i j : Nat, i ≤ j ∧ j ≤ xs.length ∧ u = .int .i64 (i : Nat) ∧ v = .int .i64 (j : Nat) ∧ Hid ((∀ t x, t < i → xs[t]? = some x → kt (Msg.k x) key = true) ∧ (∀ t x, j ≤ t → xs[t]? = some x → kt (Msg.k x) key = false)) ∧ Still w wr) (fun u v _ => nv v - nv u)
  case atStart => exact ⟨0, xs.length, Nat.zero_le _, Nat.le_refl _, rfl, rfl, Lib.hid ⟨fun t x h => by omega, fun t x h1 h2 => by have := (List.getElem?_eq_some_iff.1 h2).1; omega⟩, Chg.refl _ _⟩
  case round =>
    obtain ⟨i, j, hij, hj, rfl, rfl, HI, hs⟩ := hrel
    have HS := Lib.hid hs
    clear hs
    by_cases hlt : i < j
    · have hm : (i + j) / 2 < xs.length := by omega
      have hw1 : IntKind.i64.wrap ((i : Int) + (j : Int)) = (i : Int) + (j : Int) := half i j (by omega)
      have hm2 : (((i + j) / 2 : Nat) : Int) = ((i : Int) + (j : Int)) / 2 := by omega
      obtain ⟨b, off, rfl, hb, hc0, hc1, hc2⟩ := (H.out.still HS.out).msg ((i + j) / 2) hm
      have HX := Lib.hid (ge_some hm)
      generalize xs[(i + j) / 2] = x at hc0 hc1 hc2 HX
      obtain ⟨m, hmm⟩ : ∃ m, m = (i + j) / 2 := ⟨_, rfl⟩
      rw [← hmm] at hc0 hc1 hc2 HX hm2 hm
      have hm3 : ((i : Int) + (j : Int)) / 2 = (m : Int) := hm2.symm
      have hmi : i ≤ m := by omega
      have hmj : m < j := by omega
      clear hmm hm2
      go_wp2_with fail
      refine (cmp58 x key _).mono ?_
      rintro e w1 ⟨rfl, hs⟩
      have HS1 := Lib.hid (HS.out.trans hs)
      clear hs hc0 hc1 hc2
      by_cases hc : kc x.k key < 0
      · have HI2 : Hid ((∀ t y, t < m + 1 → xs[t]? = some y → kt (Msg.k y) key = true) ∧ (∀ t y, j ≤ t → xs[t]? = some y → kt (Msg.k y) key = false)) := Lib.hid ⟨fun t y h1 h2 => by
          by_cases e : t = m
          · subst e
            rw [HX.out] at h2
            simp only [Option.some.injEq] at h2
            subst h2
            exact kc_lt.1 hc
          · exact kt_trans (HR.out.lt' (show t < m by omega) h2 HX.out) (kc_lt.1 hc), HI.out.2⟩
        go_wp2
        go_roundw
        case rel => exact ⟨m + 1, j, by omega, by omega, by go_num, rfl, HI2, HS1.out⟩
        case measure => simp [nv]; omega
      · have hk : kt x.k key = false := by
          cases e : kt x.k key with
          | false => rfl
          | true => exact absurd (kc_lt.2 e) hc
        have HI2 : Hid ((∀ t y, t < i → xs[t]? = some y → kt (Msg.k y) key = true) ∧ (∀ t y, m ≤ t → xs[t]? = some y → kt (Msg.k y) key = false)) := Lib.hid ⟨HI.out.1, fun t y h1 h2 => by
          by_cases e : t = m
          · subst e
            rw [HX.out] at h2
            simp only [Option.some.injEq] at h2
            subst h2
            exact hk
          · cases e2 : kt (Msg.k y) key with
            | false => rfl
            | true => exact absurd (kt_trans (HR.out.lt' (show m < t by omega) HX.out h2) e2) (by rw [hk]; simp)⟩
        clear hk
        go_wp2
        go_roundw
        case rel => exact ⟨i, m, by omega, by omega, rfl, rfl, HI2, HS1.out⟩
        case measure => simp [nv]; omega
    · have hij2 : i = j := by omega
      subst hij2
      have HP : Hid (posN Msg.k xs key = i) := Lib.hid (pos_eq hj HI.out.1 HI.out.2)
      clear hlt hij
      by_cases hin : i < xs.length
      · obtain ⟨b, off, rfl, hb, hc0, hc1, hc2⟩ := (H.out.still HS.out).msg i hin
        have HX := Lib.hid (ge_some hin)
        generalize xs[i] = x at hc0 hc1 hc2 HX
        have HA : Hid (isAt Msg.k xs i key = decide (x.k = key)) := Lib.hid (by unfold isAt; rw [HX.out])
        go_wp2_with fail
        refine (cmp58 x key _).mono ?_
        rintro e w1 ⟨rfl, hs⟩
        have HS1 := Lib.hid (HS.out.trans hs)
        clear hs hc0 hc1 hc2
        by_cases hc : kc x.k key = 0
        · have HA2 : Hid (isAt Msg.k xs i key = true) := Lib.hid (by rw [HA.out, decide_eq_true (kc_zero.1 hc)])
          have hc2 : (kc x.k key == 0) = true := by rw [hc]; rfl
          clear HA
          go_wp2
          refine bodyPost_ret (v := .tuple #[.int .i64 i, .bool true]) (by simp [results, Try.results57, go_sem, *]) rfl ?_
          exact ⟨by rw [HP.out, HA2.out], HS1.out⟩
        · have HA2 : Hid (isAt Msg.k xs i key = false) := Lib.hid (by rw [HA.out, decide_eq_false (fun h => hc (kc_zero.2 h))])
          have hc2 : (kc x.k key == 0) = false := beq_eq_false_iff_ne.2 hc
          clear HA
          go_wp2
          refine bodyPost_ret (v := .tuple #[.int .i64 i, .bool false]) (by simp [results, Try.results57, go_sem, *]) rfl ?_
          exact ⟨by rw [HP.out, HA2.out], HS1.out⟩
      · have HA2 : Hid (isAt Msg.k xs i key = false) := Lib.hid (by unfold isAt; rw [List.getElem?_eq_none (by omega)])
        go_wp2
        refine bodyPost_ret (v := .tuple #[.int .i64 i, .bool false]) (by simp [results, Try.results57, go_sem, *]) rfl ?_
        exact ⟨by rw [HP.out, HA2.out], HS.out⟩
set_option maxRecDepth 100000 in
set_option maxHeartbeats 1000000 in
theorem bsf45 {w : World} {v : Value} {xs : List Pr} (h : Sl encP 2 w v xs) (hr : Rises Pr.k xs) (hn : xs.length ≤ 1000000) (key : K) : Calls Try.prog 45 #[v, .string key.1, .func (.func 46) #[] #[]] w (BsfP Pr.k xs key w) := by
  obtain ⟨A, c, rfl, qc1, qc2⟩ := h.form
  have H := Lib.hid h
  have HR := Lib.hid hr
  clear h hr
  go_enter Try.func45, Try.ntmps45
  go_wp2_with fail
  go_loopw [9, 10] (fun u v wr => ∃ i j : Nat, i ≤ j ∧ j ≤ xs.length ∧ u = .int .i64 (i : Nat) ∧ v = .int .i64 (j : Nat) ∧ Hid ((∀ t x, t < i → xs[t]? = some x → kt (Pr.k x) key = true) ∧ (∀ t x, j ≤ t → xs[t]? = some x → kt (Pr.k x) key = false)) ∧ Still w wr) (fun u v _ => nv v - nv u)
  case atStart => exact ⟨0, xs.length, Nat.zero_le _, Nat.le_refl _, rfl, rfl, Lib.hid ⟨fun t x h => by omega, fun t x h1 h2 => by have := (List.getElem?_eq_some_iff.1 h2).1; omega⟩, Chg.refl _ _⟩
  case round =>
    obtain ⟨i, j, hij, hj, rfl, rfl, HI, hs⟩ := hrel
    have HS := Lib.hid hs
    clear hs
    by_cases hlt : i < j
    · have hm : (i + j) / 2 < xs.length := by omega
      have hw1 : IntKind.i64.wrap ((i : Int) + (j : Int)) = (i : Int) + (j : Int) := half i j (by omega)
      have hm2 : (((i + j) / 2 : Nat) : Int) = ((i : Int) + (j : Int)) / 2 := by omega
      obtain ⟨b, off, rfl, hb, hc0, hc1⟩ := (H.out.still HS.out).pr ((i + j) / 2) hm
      have HX := Lib.hid (ge_some hm)
      generalize xs[(i + j) / 2] = x at hc0 hc1 HX
      obtain ⟨m, hmm⟩ : ∃ m, m = (i + j) / 2 := ⟨_, rfl⟩
      rw [← hmm] at hc0 hc1 HX hm2 hm
      have hm3 : ((i : Int) + (j : Int)) / 2 = (m : Int) := hm2.symm
      have hmi : i ≤ m := by omega
      have hmj : m < j := by omega
      clear hmm hm2
      go_wp2_with fail
      refine (cmp46 x key _).mono ?_
      rintro e w1 ⟨rfl, hs⟩
      have HS1 := Lib.hid (HS.out.trans hs)
      clear hs hc0 hc1
      by_cases hc : kc x.k key < 0
      · have HI2 : Hid ((∀ t y, t < m + 1 → xs[t]? = some y → kt (Pr.k y) key = true) ∧ (∀ t y, j ≤ t → xs[t]? = some y → kt (Pr.k y) key = false)) := Lib.hid ⟨fun t y h1 h2 => by
          by_cases e : t = m
          · subst e
            rw [HX.out] at h2
            simp only [Option.some.injEq] at h2
            subst h2
            exact kc_lt.1 hc
          · exact kt_trans (HR.out.lt' (show t < m by omega) h2 HX.out) (kc_lt.1 hc), HI.out.2⟩
        go_wp2
        go_roundw
        case rel => exact ⟨m + 1, j, by omega, by omega, by go_num, rfl, HI2, HS1.out⟩
        case measure => simp [nv]; omega
      · have hk : kt x.k key = false := by
          cases e : kt x.k key with
          | false => rfl
          | true => exact absurd (kc_lt.2 e) hc
        have HI2 : Hid ((∀ t y, t < i → xs[t]? = some y → kt (Pr.k y) key = true) ∧ (∀ t y, m ≤ t → xs[t]? = some y → kt (Pr.k y) key = false)) := Lib.hid ⟨HI.out.1, fun t y h1 h2 => by
          by_cases e : t = m
          · subst e
            rw [HX.out] at h2
            simp only [Option.some.injEq] at h2
            subst h2
            exact hk
          · cases e2 : kt (Pr.k y) key with
            | false => rfl
            | true => exact absurd (kt_trans (HR.out.lt' (show m < t by omega) HX.out h2) e2) (by rw [hk]; simp)⟩
        clear hk
        go_wp2
        go_roundw
        case rel => exact ⟨i, m, by omega, by omega, rfl, rfl, HI2, HS1.out⟩
        case measure => simp [nv]; omega
    · have hij2 : i = j := by omega
      subst hij2
      have HP : Hid (posN Pr.k xs key = i) := Lib.hid (pos_eq hj HI.out.1 HI.out.2)
      clear hlt hij
      by_cases hin : i < xs.length
      · obtain ⟨b, off, rfl, hb, hc0, hc1⟩ := (H.out.still HS.out).pr i hin
        have HX := Lib.hid (ge_some hin)
        generalize xs[i] = x at hc0 hc1 HX
        have HA : Hid (isAt Pr.k xs i key = decide (x.k = key)) := Lib.hid (by unfold isAt; rw [HX.out])
        go_wp2_with fail
        refine (cmp46 x key _).mono ?_
        rintro e w1 ⟨rfl, hs⟩
        have HS1 := Lib.hid (HS.out.trans hs)
        clear hs hc0 hc1
        by_cases hc : kc x.k key = 0
        · have HA2 : Hid (isAt Pr.k xs i key = true) := Lib.hid (by rw [HA.out, decide_eq_true (kc_zero.1 hc)])
          have hc2 : (kc x.k key == 0) = true := by rw [hc]; rfl
          clear HA
          go_wp2
          refine bodyPost_ret (v := .tuple #[.int .i64 i, .bool true]) (by simp [results, Try.results45, go_sem, *]) rfl ?_
          exact ⟨by rw [HP.out, HA2.out], HS1.out⟩
        · have HA2 : Hid (isAt Pr.k xs i key = false) := Lib.hid (by rw [HA.out, decide_eq_false (fun h => hc (kc_zero.2 h))])
          have hc2 : (kc x.k key == 0) = false := beq_eq_false_iff_ne.2 hc
          clear HA
          go_wp2
          refine bodyPost_ret (v := .tuple #[.int .i64 i, .bool false]) (by simp [results, Try.results45, go_sem, *]) rfl ?_
          exact ⟨by rw [HP.out, HA2.out], HS1.out⟩
      · have HA2 : Hid (isAt Pr.k xs i key = false) := Lib.hid (by unfold isAt; rw [List.getElem?_eq_none (by omega)])
        go_wp2
        refine bodyPost_ret (v := .tuple #[.int .i64 i, .bool false]) (by simp [results, Try.results45, go_sem, *]) rfl ?_
        exact ⟨by rw [HP.out, HA2.out], HS.out⟩
end Go.Proofs.Ytekoibglogoaaaa
