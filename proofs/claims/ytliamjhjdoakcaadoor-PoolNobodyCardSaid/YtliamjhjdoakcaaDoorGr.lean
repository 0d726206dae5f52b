/- Plain facts: the lowest free places of a list of bools, and its taken places. No program in sight. -/
import Derived.Test.YtliamjhjdoakcaaDoorBt
namespace Go.Proofs.YtliamjhjdoakcaaDoor.Bt
open Go

/-- The j lowest free places from one on. -/
def gr (l : List Bool) : Nat → Nat → List Nat
  | _, 0 => []
  | f, j + 1 => match first l f false with
    | some i => i :: gr l (i + 1) j
    | none => []
def setAll (l : List Bool) (is : List Nat) : List Bool := is.foldl (fun l i => l.set i true) l

theorem setAll_len (is : List Nat) : ∀ l : List Bool, (setAll l is).length = l.length := by
  induction is with
  | nil => intro l; rfl
  | cons i is ih => intro l; have := ih (l.set i true); simpa [setAll] using this
theorem setAll_snoc (l : List Bool) (is : List Nat) (i : Nat) : setAll l (is ++ [i]) = (setAll l is).set i true := by simp [setAll]
theorem getD_set_ne (l : List Bool) (i j : Nat) (b : Bool) (h : i ≠ j) : (l.set i b).getD j false = l.getD j false := by rw [getD_set, if_neg (fun e => h e.1)]

theorem first_congr {l l' : List Bool} {f : Nat} {b : Bool} (hl : l'.length = l.length) (h : ∀ q, f ≤ q → l'.getD q false = l.getD q false) : first l' f b = first l f b := by
  cases hf : first l f b with
  | none =>
    rw [first_none] at hf ⊢
    intro j h1 h2
    rw [h j h1]
    exact hf j h1 (by omega)
  | some i =>
    rw [first_some] at hf ⊢
    obtain ⟨h1, h2, h3, h4⟩ := hf
    refine ⟨by omega, h2, by rw [h i h2]; exact h3, fun j hj hji => ?_⟩
    rw [h j hj]
    exact h4 j hj hji

theorem gr_zero (l : List Bool) (f : Nat) : gr l f 0 = [] := by unfold gr; rfl
theorem gr_some {l : List Bool} {f i : Nat} (h : first l f false = some i) (j : Nat) : gr l f (j + 1) = i :: gr l (i + 1) j := by
  conv => lhs; unfold gr
  rw [h]
theorem gr_none {l : List Bool} {f : Nat} (h : first l f false = none) (j : Nat) : gr l f j = [] := by
  cases j with
  | zero => exact gr_zero l f
  | succ j => unfold gr; rw [h]
theorem first_here {l : List Bool} {f : Nat} {b : Bool} (hf : f < l.length) (h : l.getD f false = b) : first l f b = some f := first_some.2 ⟨hf, Nat.le_refl _, h, fun j h1 h2 => by omega⟩
theorem first_next {l : List Bool} {f : Nat} {b : Bool} (h : l.getD f false ≠ b) : first l f b = first l (f + 1) b := by
  cases hf : first l (f + 1) b with
  | none =>
    rw [first_none] at hf ⊢
    intro j h1 h2
    by_cases e : j = f
    · subst e; exact h
    · exact hf j (by omega) h2
  | some i =>
    rw [first_some] at hf ⊢
    obtain ⟨h1, h2, h3, h4⟩ := hf
    refine ⟨h1, by omega, h3, fun j hj hji => ?_⟩
    by_cases e : j = f
    · subst e; exact h
    · exact h4 j (by omega) hji
theorem gr_taken {l : List Bool} {f : Nat} (h : l.getD f false = true) (j : Nat) : gr l f j = gr l (f + 1) j := by
  cases j with
  | zero => rw [gr_zero, gr_zero]
  | succ j =>
    conv => lhs; unfold gr
    conv => rhs; unfold gr
    rw [first_next (b := false) (by rw [h]; simp)]
theorem gr_free {l : List Bool} {f : Nat} (hf : f < l.length) (h : l.getD f false = false) (j : Nat) : gr l f (j + 1) = f :: gr l (f + 1) j := gr_some (first_here hf h) j
theorem gr_end {l : List Bool} {f : Nat} (hf : l.length ≤ f) (j : Nat) : gr l f j = [] := gr_none (first_none.2 fun k h1 h2 => by omega) j

/-- How many places from one on are free. -/
def fc (l : List Bool) (f : Nat) : Nat := (l.drop f).count false
theorem fc_step (l : List Bool) (f : Nat) (hf : f < l.length) : fc l f = fc l (f + 1) + if l.getD f false then 0 else 1 := by
  unfold fc
  rw [List.drop_eq_getElem_cons hf, List.count_cons]
  simp only [List.getD_eq_getElem?_getD, List.getElem?_eq_getElem hf, Option.getD_some]
  cases l[f] <;> simp
theorem fc_end (l : List Bool) (f : Nat) (hf : l.length ≤ f) : fc l f = 0 := by unfold fc; rw [List.drop_eq_nil_of_le hf]; rfl
theorem fc_gap (l : List Bool) (f : Nat) : ∀ i, f ≤ i → i ≤ l.length → (∀ j, f ≤ j → j < i → l.getD j false ≠ false) → fc l f = fc l i := by
  intro i
  induction i with
  | zero => intro h1 _ _; rw [show f = 0 by omega]
  | succ i ih =>
    intro h1 h2 h3
    by_cases e : f = i + 1
    · rw [e]
    · rw [ih (by omega) (by omega) (fun j hj hji => h3 j hj (by omega)), fc_step l i (by omega)]
      have := h3 i (by omega) (by omega)
      simp only [ne_eq, Bool.not_eq_false] at this
      rw [this]; simp
theorem fc_some {l : List Bool} {f i : Nat} (h : first l f false = some i) : fc l f = fc l (i + 1) + 1 := by
  rw [first_some] at h
  obtain ⟨h1, h2, h3, h4⟩ := h
  rw [fc_gap l f i h2 (by omega) h4, fc_step l i h1, h3]; simp
theorem fc_none {l : List Bool} {f : Nat} (h : first l f false = none) : fc l f = 0 := by
  by_cases hf : f ≤ l.length
  · rw [first_none] at h
    rw [fc_gap l f l.length hf (Nat.le_refl _) h]
    exact fc_end l _ (Nat.le_refl _)
  · exact fc_end l f (by omega)

/-- The taken places from one on. -/
def tf (l : List Bool) (f : Nat) : List Nat := (List.range' f (l.length - f)).filter fun i => l.getD i false
theorem tf_step (l : List Bool) (f : Nat) (hf : f < l.length) : tf l f = (if l.getD f false then [f] else []) ++ tf l (f + 1) := by
  unfold tf
  rw [show l.length - f = (l.length - (f + 1)) + 1 by omega, List.range'_succ, List.filter_cons]
  cases l.getD f false <;> simp
theorem tf_end (l : List Bool) (f : Nat) (hf : l.length ≤ f) : tf l f = [] := by unfold tf; rw [show l.length - f = 0 by omega]; rfl
theorem tf_gap (l : List Bool) (f : Nat) : ∀ i, f ≤ i → i ≤ l.length → (∀ j, f ≤ j → j < i → l.getD j false ≠ true) → tf l f = tf l i := by
  intro i
  induction i with
  | zero => intro h1 _ _; rw [show f = 0 by omega]
  | succ i ih =>
    intro h1 h2 h3
    by_cases e : f = i + 1
    · rw [e]
    · rw [ih (by omega) (by omega) (fun j hj hji => h3 j hj (by omega)), tf_step l i (by omega)]
      have := h3 i (by omega) (by omega)
      simp only [ne_eq, Bool.not_eq_true] at this
      rw [this]; simp
theorem tf_some {l : List Bool} {f i : Nat} (h : first l f true = some i) : tf l f = i :: tf l (i + 1) := by
  rw [first_some] at h
  obtain ⟨h1, h2, h3, h4⟩ := h
  rw [tf_gap l f i h2 (by omega) h4, tf_step l i h1, h3]; simp
theorem tf_none {l : List Bool} {f : Nat} (h : first l f true = none) : tf l f = [] := by
  by_cases hf : f ≤ l.length
  · rw [first_none] at h
    rw [tf_gap l f l.length hf (Nat.le_refl _) h]
    exact tf_end l _ (Nat.le_refl _)
  · exact tf_end l f (by omega)
theorem tf_lt (l : List Bool) (f : Nat) : ∀ x ∈ tf l f, x < l.length := by
  intro x hx
  unfold tf at hx
  rw [List.mem_filter, List.mem_range'_1] at hx
  omega
theorem tf_len (l : List Bool) (f : Nat) : (tf l f).length ≤ l.length := by
  unfold tf
  have := List.length_filter_le (fun i => l.getD i false) (List.range' f (l.length - f))
  rw [List.length_range'] at this
  omega
theorem gr_len (l : List Bool) : ∀ (j f : Nat), (gr l f j).length = min j (fc l f)
  | 0, f => by rw [gr_zero]; simp
  | j + 1, f => by
    cases h : first l f false with
    | none => rw [gr_none h, fc_none h]; simp
    | some i => rw [gr_some h, fc_some h, List.length_cons, gr_len l j (i + 1)]; omega
theorem gr_lt (l : List Bool) : ∀ (j f : Nat), ∀ x ∈ gr l f j, x < l.length ∧ f ≤ x ∧ l.getD x false = false
  | 0, f => by rw [gr_zero]; simp
  | j + 1, f => by
    cases h : first l f false with
    | none => rw [gr_none h]; simp
    | some i =>
      rw [gr_some h]
      have h2 := first_some.1 h
      intro x hx
      simp only [List.mem_cons] at hx
      rcases hx with rfl | hx
      · exact ⟨h2.1, h2.2.1, h2.2.2.1⟩
      · obtain ⟨h3, h4, h5⟩ := gr_lt l j (i + 1) x hx
        exact ⟨h3, by omega, h5⟩
theorem fc_le (l : List Bool) (f : Nat) : fc l f ≤ l.length := by
  unfold fc
  have := List.count_le_length (a := false) (l := l.drop f)
  simp only [List.length_drop] at this
  omega
theorem fc_zero (l : List Bool) : fc l 0 = l.count false := rfl
end Go.Proofs.YtliamjhjdoakcaaDoor.Bt
