/- Plain lists whose keys rise: what is below a key, and what is behind it. -/
import Derived.Test.YtekoibglogoaaaaDi
namespace Go.Proofs.Ytekoibglogoaaaa
open Go Go.RowKit Go.Shelf
set_option linter.unusedVariables false
set_option linter.unusedSimpArgs false

section
variable {α : Type} {f : α → K}
theorem Rises.pw {xs : List α} (h : Rises f xs) : xs.Pairwise (fun a b => kt (f a) (f b) = true) := by
  rw [List.pairwise_iff_getElem]
  intro i j hi hj hij
  exact h.lt' hij (ge_some hi) (ge_some hj)
theorem rises_of_pw {xs : List α} (h : xs.Pairwise (fun a b => kt (f a) (f b) = true)) : Rises f xs := by
  rw [List.pairwise_iff_getElem] at h
  intro i x y hx hy
  obtain ⟨h1, rfl⟩ := List.getElem?_eq_some_iff.1 hx
  obtain ⟨h2, rfl⟩ := List.getElem?_eq_some_iff.1 hy
  exact h i (i + 1) h1 h2 (by omega)
/-- Those below a key, those behind it. -/
def loL (f : α → K) (xs : List α) (k : K) : List α := xs.filter fun x => kt (f x) k
def hiL (f : α → K) (xs : List α) (k : K) : List α := xs.filter fun x => kt k (f x)
theorem kt_of_le {a b : K} (h : kt a b = false) (hne : a ≠ b) : kt b a = true := by
  cases e : kt b a with
  | true => rfl
  | false => exact absurd (kt_total h e) hne
theorem pw_none {a : α} {xs : List α} {k : K} (h : ∀ y ∈ xs, kt (f a) (f y) = true) (ha : kt (f a) k = false) : (∀ y ∈ xs, kt (f y) k = false) ∧ (∀ y ∈ xs, kt k (f y) = true) := by
  have h2 : ∀ y ∈ xs, kt k (f y) = true := fun y hy => ke_kt (not_kt.1 ha) (h y hy)
  exact ⟨fun y hy => kt_asymm (h2 y hy), h2⟩
theorem filter_none {p : α → Bool} {xs : List α} (h : ∀ y ∈ xs, p y = false) : xs.filter p = [] := by
  rw [List.filter_eq_nil_iff]; intro y hy; rw [h y hy]; simp
theorem filter_all {p : α → Bool} {xs : List α} (h : ∀ y ∈ xs, p y = true) : xs.filter p = xs := List.filter_eq_self.2 h
theorem count_none {p : α → Bool} {xs : List α} (h : ∀ y ∈ xs, p y = false) : xs.countP p = 0 := by
  rw [List.countP_eq_zero]; intro y hy; rw [h y hy]; simp
theorem pos_take {k : K} : ∀ {xs : List α}, xs.Pairwise (fun a b => kt (f a) (f b) = true) → xs.take (posN f xs k) = loL f xs k ∧
    ((isAt f xs (posN f xs k) k = true ∧ xs.drop (posN f xs k + 1) = hiL f xs k ∧ (∃ x, xs[posN f xs k]? = some x ∧ f x = k)) ∨ (isAt f xs (posN f xs k) k = false ∧ xs.drop (posN f xs k) = hiL f xs k ∧ ∀ x ∈ xs, f x ≠ k))
  | [], _ => by simp [posN, loL, hiL, isAt]
  | a :: t, h => by
    have h1 := List.pairwise_cons.1 h
    cases ha : kt (f a) k with
    | true =>
      obtain ⟨ih1, ih2⟩ := pos_take (k := k) h1.2
      have e : posN f (a :: t) k = posN f t k + 1 := by unfold posN; rw [List.countP_cons, ha]; rfl
      have el : loL f (a :: t) k = a :: loL f t k := by unfold loL; rw [List.filter_cons, if_pos ha]
      have eh : hiL f (a :: t) k = hiL f t k := by unfold hiL; rw [List.filter_cons, if_neg (by rw [kt_asymm ha]; simp)]
      rw [e, el, eh, List.take_succ_cons, ih1]
      refine ⟨rfl, ?_⟩
      have ei : isAt f (a :: t) (posN f t k + 1) k = isAt f t (posN f t k) k := by unfold isAt; rw [List.getElem?_cons_succ]
      rw [ei, List.drop_succ_cons, List.drop_succ_cons, List.getElem?_cons_succ]
      rcases ih2 with ih2 | ⟨q1, q2, q3⟩
      · exact .inl ih2
      · refine .inr ⟨q1, q2, fun x hx => ?_⟩
        rcases List.mem_cons.1 hx with rfl | hx
        · exact kt_ne ha
        · exact q3 x hx
    | false =>
      obtain ⟨n1, n2⟩ := pw_none h1.1 ha
      have e : posN f (a :: t) k = 0 := by unfold posN; rw [List.countP_cons, count_none n1, ha]; rfl
      have el : loL f (a :: t) k = [] := by unfold loL; rw [List.filter_cons, if_neg (by rw [ha]; simp), filter_none n1]
      rw [e, el]
      refine ⟨rfl, ?_⟩
      by_cases hk : f a = k
      · left
        refine ⟨by unfold isAt; simp [hk], ?_, a, rfl, hk⟩
        unfold hiL
        rw [List.filter_cons, if_neg (by rw [hk, kt_irr]; simp), filter_all n2]
        rfl
      · right
        refine ⟨by unfold isAt; simp [hk], ?_, fun x hx => ?_⟩
        · unfold hiL
          rw [List.filter_cons, if_pos (kt_of_le ha hk), filter_all n2]
          rfl
        · rcases List.mem_cons.1 hx with rfl | hx
          · exact hk
          · exact fun e => by have := n2 x hx; rw [e, kt_irr] at this; simp at this
theorem lo_mem {xs : List α} {k : K} {x : α} (h : x ∈ loL f xs k) : x ∈ xs ∧ kt (f x) k = true := by unfold loL at h; exact List.mem_filter.1 h
theorem hi_mem {xs : List α} {k : K} {x : α} (h : x ∈ hiL f xs k) : x ∈ xs ∧ kt k (f x) = true := by unfold hiL at h; exact List.mem_filter.1 h
theorem lo_pw {xs : List α} {k : K} (h : xs.Pairwise (fun a b => kt (f a) (f b) = true)) : (loL f xs k).Pairwise (fun a b => kt (f a) (f b) = true) := h.filter _
theorem hi_pw {xs : List α} {k : K} (h : xs.Pairwise (fun a b => kt (f a) (f b) = true)) : (hiL f xs k).Pairwise (fun a b => kt (f a) (f b) = true) := h.filter _
theorem cut_pw {xs : List α} {k : K} (h : xs.Pairwise (fun a b => kt (f a) (f b) = true)) : (loL f xs k ++ hiL f xs k).Pairwise (fun a b => kt (f a) (f b) = true) :=
  List.pairwise_append.2 ⟨lo_pw h, hi_pw h, fun a ha b hb => kt_trans (lo_mem ha).2 (hi_mem hb).2⟩
theorem put_pw {xs : List α} {k : K} {x : α} (hx : f x = k) (h : xs.Pairwise (fun a b => kt (f a) (f b) = true)) : (loL f xs k ++ x :: hiL f xs k).Pairwise (fun a b => kt (f a) (f b) = true) := by
  refine List.pairwise_append.2 ⟨lo_pw h, List.pairwise_cons.2 ⟨fun b hb => by rw [hx]; exact (hi_mem hb).2, hi_pw h⟩, fun a ha b hb => ?_⟩
  rcases List.mem_cons.1 hb with rfl | hb
  · rw [hx]; exact (lo_mem ha).2
  · exact kt_trans (lo_mem ha).2 (hi_mem hb).2
theorem lohi_le (xs : List α) (k : K) : (loL f xs k).length + (hiL f xs k).length ≤ xs.length := by
  induction xs with
  | nil => simp [loL, hiL]
  | cons a t ih =>
    unfold loL hiL at *
    rw [List.filter_cons, List.filter_cons]
    cases h1 : kt (f a) k with
    | true =>
      rw [kt_asymm h1]
      simp only [if_true, List.length_cons, Bool.false_eq_true, if_false]
      omega
    | false =>
      simp only [Bool.false_eq_true, if_false, List.length_cons]
      split
      · simp only [List.length_cons]; omega
      · omega
end
/-- What a message does to pairs. -/
def app1 (xs : List Pr) (m : Msg) : List Pr := if m.d then loL Pr.k xs m.k ++ hiL Pr.k xs m.k else loL Pr.k xs m.k ++ ⟨m.k, m.v⟩ :: hiL Pr.k xs m.k
theorem app1_rises {xs : List Pr} {m : Msg} (h : Rises Pr.k xs) : Rises Pr.k (app1 xs m) := by
  unfold app1
  split
  · exact rises_of_pw (cut_pw h.pw)
  · exact rises_of_pw (put_pw rfl h.pw)
theorem app1_len (xs : List Pr) (m : Msg) : (app1 xs m).length ≤ xs.length + 1 := by
  have := lohi_le (f := Pr.k) xs m.k
  unfold app1
  split
  · rw [List.length_append]; omega
  · rw [List.length_append, List.length_cons]; omega
theorem app1_erase {xs : List Pr} {m : Msg} (h : Rises Pr.k xs) (hf : isAt Pr.k xs (posN Pr.k xs m.k) m.k = true) (hd : m.d = true) : app1 xs m = xs.eraseIdx (posN Pr.k xs m.k) := by
  obtain ⟨h1, h2⟩ := pos_take (k := m.k) h.pw
  unfold app1
  rw [if_pos hd, erase_eq, h1]
  rcases h2 with ⟨-, h2, -⟩ | ⟨h2, -⟩
  · rw [h2]
  · rw [hf] at h2; simp at h2
theorem app1_set {xs : List Pr} {m : Msg} (h : Rises Pr.k xs) (hf : isAt Pr.k xs (posN Pr.k xs m.k) m.k = true) (hd : m.d = false) : app1 xs m = xs.set (posN Pr.k xs m.k) ⟨m.k, m.v⟩ := by
  obtain ⟨h1, h2⟩ := pos_take (k := m.k) h.pw
  unfold app1
  rw [if_neg (by rw [hd]; simp)]
  rcases h2 with ⟨-, h2, x, hx, -⟩ | ⟨h2, -⟩
  · rw [List.set_eq_take_append_cons_drop, if_pos (List.getElem?_eq_some_iff.1 hx).1, h1, h2]
  · rw [hf] at h2; simp at h2
theorem app1_ins {xs : List Pr} {m : Msg} (h : Rises Pr.k xs) (hf : isAt Pr.k xs (posN Pr.k xs m.k) m.k = false) (hd : m.d = false) : app1 xs m = insL xs (posN Pr.k xs m.k) ⟨m.k, m.v⟩ := by
  obtain ⟨h1, h2⟩ := pos_take (k := m.k) h.pw
  unfold app1 insL
  rw [if_neg (by rw [hd]; simp), h1]
  rcases h2 with ⟨h2, -⟩ | ⟨-, h2, -⟩
  · rw [hf] at h2; simp at h2
  · rw [h2]
theorem app1_none {xs : List Pr} {m : Msg} (h : Rises Pr.k xs) (hf : isAt Pr.k xs (posN Pr.k xs m.k) m.k = false) (hd : m.d = true) : app1 xs m = xs := by
  obtain ⟨h1, h2⟩ := pos_take (k := m.k) h.pw
  unfold app1
  rw [if_pos hd, ← h1]
  rcases h2 with ⟨h2, -⟩ | ⟨-, h2, -⟩
  · rw [hf] at h2; simp at h2
  · rw [← h2, List.take_append_drop]
def appL (xs : List Pr) (ms : List Msg) : List Pr := ms.foldl app1 xs
theorem appL_rises : ∀ (ms : List Msg) {xs : List Pr}, Rises Pr.k xs → Rises Pr.k (appL xs ms)
  | [], _, h => h
  | m :: ms, _, h => appL_rises ms (app1_rises h)
theorem appL_len : ∀ (ms : List Msg) (xs : List Pr), (appL xs ms).length ≤ xs.length + ms.length
  | [], xs => Nat.le_refl _
  | m :: ms, xs => by
    have h1 := appL_len ms (app1 xs m)
    have h2 := app1_len xs m
    show (appL (app1 xs m) ms).length ≤ _
    rw [List.length_cons]
    omega
theorem appL_snoc (xs : List Pr) (ms : List Msg) (m : Msg) : appL xs (ms ++ [m]) = app1 (appL xs ms) m := by unfold appL; rw [List.foldl_append]; rfl
theorem flat_set : ∀ (xs : List Pr) (i : Nat) (x : Pr) (v : K), xs[i]? = some x → (xs.flatMap encP).set (i * 2 + 1) (.string v.1) = (xs.set i ⟨x.k, v⟩).flatMap encP
  | [], i, x, v, h => by simp at h
  | a :: t, 0, x, v, h => by
    simp only [List.getElem?_cons_zero, Option.some.injEq] at h
    subst h
    rfl
  | a :: t, i + 1, x, v, h => by
    have ih := flat_set t i x v (by simpa using h)
    rw [List.flatMap_cons, List.set_cons_succ, List.flatMap_cons, ← ih, show (i + 1) * 2 + 1 = (i * 2 + 1) + 1 + 1 by omega]
    rfl
end Go.Proofs.Ytekoibglogoaaaa
