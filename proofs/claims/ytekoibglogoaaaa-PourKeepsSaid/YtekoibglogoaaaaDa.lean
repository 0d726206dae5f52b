/- Rows of the call's own, of structures; the clones. -/
import Derived.Test.YtekoibglogoaaaaCi
import Derived.Shelf.SlicesE.Clone
import Derived.Deep.OwnRows
import Derived.Laws.AppendOwn
namespace Go.Proofs.Ytekoibglogoaaaa
open Go Go.RowKit Go.Shelf
set_option linter.unusedVariables false
set_option linter.unusedSimpArgs false

section
variable {α : Type} {enc : α → List Value} {sz : Nat}
theorem flat_len (he : ∀ x, (enc x).length = sz) (xs : List α) : (xs.flatMap enc).length = xs.length * sz := by
  induction xs with
  | nil => simp
  | cons x xs ih => rw [List.flatMap_cons, List.length_append, he, ih, List.length_cons, Nat.add_mul, Nat.one_mul, Nat.add_comm]
theorem flat_get (he : ∀ x, (enc x).length = sz) (h0 : 0 < sz) : ∀ (xs : List α) (i j : Nat), j < sz → (xs.flatMap enc)[i * sz + j]? = (xs[i]?).bind fun x => (enc x)[j]?
  | [], i, j, h => by simp
  | x :: xs, 0, j, h => by
    rw [List.flatMap_cons, Nat.zero_mul, Nat.zero_add, List.getElem?_append_left (by rw [he]; exact h)]
    rfl
  | x :: xs, i + 1, j, h => by
    rw [List.flatMap_cons, List.getElem?_append_right (by rw [he, Nat.add_mul]; omega), he, show (i + 1) * sz + j - sz = i * sz + j by rw [Nat.add_mul]; omega, flat_get he h0 xs i j h]
    rfl
theorem flat_split (he : ∀ x, (enc x).length = sz) (h0 : 0 < sz) {xs : List α} {k : Nat} {u : Value} (h : (xs.flatMap enc)[k]? = some u) : ∃ i j x, k = i * sz + j ∧ j < sz ∧ xs[i]? = some x ∧ (enc x)[j]? = some u := by
  have e : k = k / sz * sz + k % sz := by rw [Nat.mul_comm]; exact (Nat.div_add_mod k sz).symm
  rw [e, flat_get he h0 _ _ _ (Nat.mod_lt _ h0)] at h
  cases hx : xs[k / sz]? with
  | none => rw [hx] at h; simp at h
  | some x => rw [hx] at h; exact ⟨_, _, x, e, Nat.mod_lt _ h0, hx, h⟩
/-- The cells of a slice, one behind the other. -/
theorem Sl.flat {w : World} {a : Addr} {n c : Nat} {xs : List α} (he : ∀ x, (enc x).length = sz) (h0 : 0 < sz) (h : Sl enc sz w (.slice (some a) n c) xs) : ∀ j u, (xs.flatMap enc)[j]? = some u → w.cell? (a.add j) = some u := by
  intro k u hk
  obtain ⟨i, j, x, rfl, hj, hx, hu⟩ := flat_split he h0 hk
  obtain ⟨A, cap, e, h1, h2, h3⟩ := h
  simp only [Value.slice.injEq] at e
  obtain ⟨rfl, rfl, rfl⟩ := e
  obtain ⟨b, off, e, hb, hc⟩ := h3 (by have := (List.getElem?_eq_some_iff.1 hx).1; omega)
  simp only [Option.some.injEq] at e
  subst e
  rw [Addr.add_lit]
  have := hc i x hx j u hu
  rwa [Nat.add_assoc] at this
/-- A row of one's own reads as a slice. -/
theorem own_sl {w : World} {B e : Nat} {v : Value} {xs : List α} (he : ∀ x, (enc x).length = sz) (h0 : 0 < sz) (h : w.ownsRow B e sz v xs.length (xs.flatMap enc)) : Sl enc sz w v xs := by
  rcases id h.2 with ⟨rfl, h1⟩ | ⟨g, cap, cur, rfl, h1, h2, h3, h4, h5, h6⟩
  · have : xs = [] := List.eq_nil_of_length_eq_zero h1
    subst this
    exact ⟨none, 0, rfl, Nat.le_refl _, by omega, fun h => by simp at h⟩
  · refine ⟨some ⟨g, 0, none⟩, cap, rfl, h3, h4, fun _ => ⟨g, 0, rfl, heap_lt h2, fun i x hx j u hu => ?_⟩⟩
    have := h.cells (g := g) rfl (i * sz + j) u (by rw [flat_get he h0 _ _ _ (by rw [← he x]; exact (List.getElem?_eq_some_iff.1 hu).1), hx]; exact hu)
    rw [Addr.add_lit] at this
    rwa [Nat.add_assoc]
end
theorem lenM (m : Msg) : (encM m).length = 3 := rfl
theorem lenP (m : Pr) : (encP m).length = 2 := rfl
theorem lenU (m : U) : (encU m).length = 1 := rfl
theorem lenS (m : K) : (encS m).length = 1 := rfl
theorem oneM (xs : List Msg) : ∀ u ∈ xs.flatMap encM, u.oneCell' = true := by
  intro u hu
  obtain ⟨x, -, hx⟩ := List.mem_flatMap.1 hu
  simp only [encM, List.mem_cons, List.not_mem_nil, or_false] at hx
  rcases hx with rfl | rfl | rfl <;> rfl
theorem oneP (xs : List Pr) : ∀ u ∈ xs.flatMap encP, u.oneCell' = true := by
  intro u hu
  obtain ⟨x, -, hx⟩ := List.mem_flatMap.1 hu
  simp only [encP, List.mem_cons, List.not_mem_nil, or_false] at hx
  rcases hx with rfl | rfl <;> rfl
theorem oneU (xs : List U) : ∀ u ∈ xs.flatMap encU, u.oneCell' = true := by
  intro u hu
  obtain ⟨x, -, hx⟩ := List.mem_flatMap.1 hu
  simp only [encU, List.mem_cons, List.not_mem_nil, or_false] at hx
  rcases hx with rfl; rfl
theorem oneS (xs : List K) : ∀ u ∈ xs.flatMap encS, u.oneCell' = true := by
  intro u hu
  obtain ⟨x, -, hx⟩ := List.mem_flatMap.1 hu
  simp only [encS, List.mem_cons, List.not_mem_nil, or_false] at hx
  rcases hx with rfl; rfl
/-- A slice whose block is one of those made since. -/
def FarV (B : Nat) (v : Value) : Prop := ∀ b off n c, v = .slice (some ⟨b, off, none⟩) n c → 0 < n → B ≤ b
def SlF {α : Type} (B : Nat) (enc : α → List Value) (sz : Nat) (w : World) (v : Value) (xs : List α) : Prop := Sl enc sz w v xs ∧ FarV B v
theorem SlF.still {α : Type} {B : Nat} {enc : α → List Value} {sz : Nat} {w w' : World} {v : Value} {xs : List α} (h : SlF B enc sz w v xs) (hs : Still w w') : SlF B enc sz w' v xs := ⟨h.1.still hs, h.2⟩
theorem SlF.mono {α : Type} {B B' : Nat} {enc : α → List Value} {sz : Nat} {w : World} {v : Value} {xs : List α} (h : SlF B enc sz w v xs) (hB : B' ≤ B) : SlF B' enc sz w v xs := ⟨h.1, fun b off n c e h0 => Nat.le_trans hB (h.2 b off n c e h0)⟩
theorem own_far {w : World} {B B' ty sz n : Nat} {v : Value} {xs : List Value} (h : w.ownsRow B ty sz v n xs) (hB : B' ≤ B) : FarV B' v := fun b off m c e _ => by
  subst e
  exact Nat.le_trans hB (h.lt b rfl).1
theorem own_slf {α : Type} {enc : α → List Value} {sz : Nat} {w : World} {B B' e : Nat} {v : Value} {xs : List α} (he : ∀ x, (enc x).length = sz) (h0 : 0 < sz) (h : w.ownsRow B e sz v xs.length (xs.flatMap enc)) (hB : B' ≤ B) : SlF B' enc sz w v xs := ⟨own_sl he h0 h, own_far h hB⟩
/-- A clone: a row of the call's own. -/
def CloneP {α : Type} (enc : α → List Value) (sz ty : Nat) (xs : List α) (w : World) (e : Ending) (w' : World) : Prop := ∃ v', e = .returned v' ∧ w'.ownsRow w.heap.size ty sz v' xs.length (xs.flatMap enc) ∧ Still w w'
theorem info43_ : ∃ i, Try.prog.info? 43 = some i ∧ i.zero = some (.int .u32 0) ∧ i.size = 1 ∧ i.bytes = 4 := ⟨_, by rfl, rfl, rfl, rfl⟩
theorem under24_ : Try.prog.underlying 24 = some (.slice 43) := by rfl
set_option maxRecDepth 100000 in
theorem clone38 {w : World} {v : Value} {xs : List U} (h : Sl encU 1 w v xs) (hn : xs.length ≤ 1000000) : Calls Try.prog 38 #[v] w (CloneP encU 1 43 xs w) := by
  obtain ⟨A, c, rfl, hc1, hc2⟩ := h.form
  cases A with
  | none =>
    have e : xs.length = 0 := by
      obtain ⟨A, cap, e, h1, h2, h3⟩ := h
      simp only [Value.slice.injEq] at e
      obtain ⟨rfl, -, -⟩ := e
      rcases Nat.eq_zero_or_pos xs.length with h0 | h0
      · exact h0
      · obtain ⟨b, off, e, -⟩ := h3 h0
        simp at e
    obtain rfl := List.eq_nil_of_length_eq_zero e
    have qq : ∀ (w : World) (a : Option Addr) (n c n' c' : Nat), (binOp .eql 24 (.slice a n c) (.slice none n' c')).run Try.prog w = .ok (.bool a.isNone) w := fun w a n c n' c' => Lib.run_eql_slice_nil w _ _ a n c n' c' under24_
    clear h
    go_enter Try.func38, Try.ntmps38
    go_wp2
    go_ret
    exact ⟨_, rfl, World.ownsRow_nil _ _ _ _, Chg.refl _ _⟩
  | some a =>
    have HF := Lib.hid (h.flat lenU (by decide))
    have qq : ∀ (w : World) (a : Option Addr) (n c n' c' : Nat), (binOp .eql 24 (.slice a n c) (.slice none n' c')).run Try.prog w = .ok (.bool a.isNone) w := fun w a n c n' c' => Lib.run_eql_slice_nil w _ _ a n c n' c' under24_
    clear h
    obtain ⟨i0, hi, hz0, hz1, hz2⟩ := info43_
    have hln := flat_len lenU xs
    have hone := Lib.hid (oneU xs)
    generalize hnews : xs.flatMap encU = news at *
    have HN := Lib.hid hnews
    clear hnews
    go_enter Try.func38, Try.ntmps38
    go_wp2_with (at_builtin; refine wpList_append_own _ rfl _ _ 24 rfl w.heap.size 43 i0 (.int .u32 0) 1 4 under24_ hi hz0 hz1 hz2 rfl (by decide) _ _ _ rfl (World.ownsRow_made w #[] 0 (Nat.le_refl _) (Nat.zero_le _) (by simp)) a xs.length c news rfl ?qc1 ?qc2 ?qc3 ?qc4 ?qc5 ?qc6 ?_)
    case qc1 => exact hln
    case qc2 =>
      intro j u hj
      exact (Chg.alloc (S := fun _ => False) w _).cell (HF.out j u hj) id
    case qc3 => exact hone.out
    case qc4 => rw [Nat.zero_add]; unfold maxLen; omega
    case qc5 => rw [Nat.zero_add]; omega
    case qc6 => simp
    intro v' w1 hown hgrow hnil
    clear hnil hi
    go_wp2
    go_ret
    refine ⟨v', rfl, by rw [HN.out]; simpa using hown, ?_⟩
    exact ((Chg.alloc w _).grown hgrow (by intro k hk; simp [Value.ownBlock] at hk; omega))
theorem info9_ : ∃ i, Try.prog.info? 9 = some i ∧ i.zero = some (.string ⟨#[]⟩) ∧ i.size = 1 ∧ i.bytes = 16 := ⟨_, by rfl, rfl, rfl, rfl⟩
theorem under25_ : Try.prog.underlying 25 = some (.slice 9) := by rfl
set_option maxRecDepth 100000 in
theorem clone39 {w : World} {v : Value} {xs : List K} (h : Sl encS 1 w v xs) (hn : xs.length ≤ 1000000) : Calls Try.prog 39 #[v] w (CloneP encS 1 9 xs w) := by
  obtain ⟨A, c, rfl, hc1, hc2⟩ := h.form
  cases A with
  | none =>
    have e : xs.length = 0 := by
      obtain ⟨A, cap, e, h1, h2, h3⟩ := h
      simp only [Value.slice.injEq] at e
      obtain ⟨rfl, -, -⟩ := e
      rcases Nat.eq_zero_or_pos xs.length with h0 | h0
      · exact h0
      · obtain ⟨b, off, e, -⟩ := h3 h0
        simp at e
    obtain rfl := List.eq_nil_of_length_eq_zero e
    have qq : ∀ (w : World) (a : Option Addr) (n c n' c' : Nat), (binOp .eql 25 (.slice a n c) (.slice none n' c')).run Try.prog w = .ok (.bool a.isNone) w := fun w a n c n' c' => Lib.run_eql_slice_nil w _ _ a n c n' c' under25_
    clear h
    go_enter Try.func39, Try.ntmps39
    go_wp2
    go_ret
    exact ⟨_, rfl, World.ownsRow_nil _ _ _ _, Chg.refl _ _⟩
  | some a =>
    have HF := Lib.hid (h.flat lenS (by decide))
    have qq : ∀ (w : World) (a : Option Addr) (n c n' c' : Nat), (binOp .eql 25 (.slice a n c) (.slice none n' c')).run Try.prog w = .ok (.bool a.isNone) w := fun w a n c n' c' => Lib.run_eql_slice_nil w _ _ a n c n' c' under25_
    clear h
    obtain ⟨i0, hi, hz0, hz1, hz2⟩ := info9_
    have hln := flat_len lenS xs
    have hone := Lib.hid (oneS xs)
    generalize hnews : xs.flatMap encS = news at *
    have HN := Lib.hid hnews
    clear hnews
    go_enter Try.func39, Try.ntmps39
    go_wp2_with (at_builtin; refine wpList_append_own _ rfl _ _ 25 rfl w.heap.size 9 i0 (.string ⟨#[]⟩) 1 16 under25_ hi hz0 hz1 hz2 rfl (by decide) _ _ _ rfl (World.ownsRow_made w #[] 0 (Nat.le_refl _) (Nat.zero_le _) (by simp)) a xs.length c news rfl ?qc1 ?qc2 ?qc3 ?qc4 ?qc5 ?qc6 ?_)
    case qc1 => exact hln
    case qc2 =>
      intro j u hj
      exact (Chg.alloc (S := fun _ => False) w _).cell (HF.out j u hj) id
    case qc3 => exact hone.out
    case qc4 => rw [Nat.zero_add]; unfold maxLen; omega
    case qc5 => rw [Nat.zero_add]; omega
    case qc6 => simp
    intro v' w1 hown hgrow hnil
    clear hnil hi
    go_wp2
    go_ret
    refine ⟨v', rfl, by rw [HN.out]; simpa using hown, ?_⟩
    exact ((Chg.alloc w _).grown hgrow (by intro k hk; simp [Value.ownBlock] at hk; omega))
theorem info45_ : ∃ i, Try.prog.info? 45 = some i ∧ i.zero = some (.agg #[.string ⟨#[]⟩, .bool false, .string ⟨#[]⟩]) ∧ i.size = 3 ∧ i.bytes = 40 := ⟨_, by rfl, rfl, rfl, rfl⟩
theorem under26_ : Try.prog.underlying 26 = some (.slice 45) := by rfl
set_option maxRecDepth 100000 in
theorem clone40 {w : World} {v : Value} {xs : List Msg} (h : Sl encM 3 w v xs) (hn : xs.length ≤ 1000000) : Calls Try.prog 40 #[v] w (CloneP encM 3 45 xs w) := by
  obtain ⟨A, c, rfl, hc1, hc2⟩ := h.form
  cases A with
  | none =>
    have e : xs.length = 0 := by
      obtain ⟨A, cap, e, h1, h2, h3⟩ := h
      simp only [Value.slice.injEq] at e
      obtain ⟨rfl, -, -⟩ := e
      rcases Nat.eq_zero_or_pos xs.length with h0 | h0
      · exact h0
      · obtain ⟨b, off, e, -⟩ := h3 h0
        simp at e
    obtain rfl := List.eq_nil_of_length_eq_zero e
    have qq : ∀ (w : World) (a : Option Addr) (n c n' c' : Nat), (binOp .eql 26 (.slice a n c) (.slice none n' c')).run Try.prog w = .ok (.bool a.isNone) w := fun w a n c n' c' => Lib.run_eql_slice_nil w _ _ a n c n' c' under26_
    clear h
    go_enter Try.func40, Try.ntmps40
    go_wp2
    go_ret
    exact ⟨_, rfl, World.ownsRow_nil _ _ _ _, Chg.refl _ _⟩
  | some a =>
    have HF := Lib.hid (h.flat lenM (by decide))
    have qq : ∀ (w : World) (a : Option Addr) (n c n' c' : Nat), (binOp .eql 26 (.slice a n c) (.slice none n' c')).run Try.prog w = .ok (.bool a.isNone) w := fun w a n c n' c' => Lib.run_eql_slice_nil w _ _ a n c n' c' under26_
    clear h
    obtain ⟨i0, hi, hz0, hz1, hz2⟩ := info45_
    have hln := flat_len lenM xs
    have hone := Lib.hid (oneM xs)
    generalize hnews : xs.flatMap encM = news at *
    have HN := Lib.hid hnews
    clear hnews
    go_enter Try.func40, Try.ntmps40
    go_wp2_with (at_builtin; refine wpList_append_own _ rfl _ _ 26 rfl w.heap.size 45 i0 (.agg #[.string ⟨#[]⟩, .bool false, .string ⟨#[]⟩]) 3 40 under26_ hi hz0 hz1 hz2 rfl (by decide) _ _ _ rfl (World.ownsRow_made w #[] 0 (Nat.le_refl _) (Nat.zero_le _) (by simp)) a xs.length c news rfl ?qc1 ?qc2 ?qc3 ?qc4 ?qc5 ?qc6 ?_)
    case qc1 => exact hln
    case qc2 =>
      intro j u hj
      exact (Chg.alloc (S := fun _ => False) w _).cell (HF.out j u hj) id
    case qc3 => exact hone.out
    case qc4 => rw [Nat.zero_add]; unfold maxLen; omega
    case qc5 => rw [Nat.zero_add]; omega
    case qc6 => simp
    intro v' w1 hown hgrow hnil
    clear hnil hi
    go_wp2
    go_ret
    refine ⟨v', rfl, by rw [HN.out]; simpa using hown, ?_⟩
    exact ((Chg.alloc w _).grown hgrow (by intro k hk; simp [Value.ownBlock] at hk; omega))
theorem info47_ : ∃ i, Try.prog.info? 47 = some i ∧ i.zero = some (.agg #[.string ⟨#[]⟩, .string ⟨#[]⟩]) ∧ i.size = 2 ∧ i.bytes = 32 := ⟨_, by rfl, rfl, rfl, rfl⟩
theorem under27_ : Try.prog.underlying 27 = some (.slice 47) := by rfl
set_option maxRecDepth 100000 in
theorem clone41 {w : World} {v : Value} {xs : List Pr} (h : Sl encP 2 w v xs) (hn : xs.length ≤ 1000000) : Calls Try.prog 41 #[v] w (CloneP encP 2 47 xs w) := by
  obtain ⟨A, c, rfl, hc1, hc2⟩ := h.form
  cases A with
  | none =>
    have e : xs.length = 0 := by
      obtain ⟨A, cap, e, h1, h2, h3⟩ := h
      simp only [Value.slice.injEq] at e
      obtain ⟨rfl, -, -⟩ := e
      rcases Nat.eq_zero_or_pos xs.length with h0 | h0
      · exact h0
      · obtain ⟨b, off, e, -⟩ := h3 h0
        simp at e
    obtain rfl := List.eq_nil_of_length_eq_zero e
    have qq : ∀ (w : World) (a : Option Addr) (n c n' c' : Nat), (binOp .eql 27 (.slice a n c) (.slice none n' c')).run Try.prog w = .ok (.bool a.isNone) w := fun w a n c n' c' => Lib.run_eql_slice_nil w _ _ a n c n' c' under27_
    clear h
    go_enter Try.func41, Try.ntmps41
    go_wp2
    go_ret
    exact ⟨_, rfl, World.ownsRow_nil _ _ _ _, Chg.refl _ _⟩
  | some a =>
    have HF := Lib.hid (h.flat lenP (by decide))
    have qq : ∀ (w : World) (a : Option Addr) (n c n' c' : Nat), (binOp .eql 27 (.slice a n c) (.slice none n' c')).run Try.prog w = .ok (.bool a.isNone) w := fun w a n c n' c' => Lib.run_eql_slice_nil w _ _ a n c n' c' under27_
    clear h
    obtain ⟨i0, hi, hz0, hz1, hz2⟩ := info47_
    have hln := flat_len lenP xs
    have hone := Lib.hid (oneP xs)
    generalize hnews : xs.flatMap encP = news at *
    have HN := Lib.hid hnews
    clear hnews
    go_enter Try.func41, Try.ntmps41
    go_wp2_with (at_builtin; refine wpList_append_own _ rfl _ _ 27 rfl w.heap.size 47 i0 (.agg #[.string ⟨#[]⟩, .string ⟨#[]⟩]) 2 32 under27_ hi hz0 hz1 hz2 rfl (by decide) _ _ _ rfl (World.ownsRow_made w #[] 0 (Nat.le_refl _) (Nat.zero_le _) (by simp)) a xs.length c news rfl ?qc1 ?qc2 ?qc3 ?qc4 ?qc5 ?qc6 ?_)
    case qc1 => exact hln
    case qc2 =>
      intro j u hj
      exact (Chg.alloc (S := fun _ => False) w _).cell (HF.out j u hj) id
    case qc3 => exact hone.out
    case qc4 => rw [Nat.zero_add]; unfold maxLen; omega
    case qc5 => rw [Nat.zero_add]; omega
    case qc6 => simp
    intro v' w1 hown hgrow hnil
    clear hnil hi
    go_wp2
    go_ret
    refine ⟨v', rfl, by rw [HN.out]; simpa using hown, ?_⟩
    exact ((Chg.alloc w _).grown hgrow (by intro k hk; simp [Value.ownBlock] at hk; omega))
end Go.Proofs.Ytekoibglogoaaaa
