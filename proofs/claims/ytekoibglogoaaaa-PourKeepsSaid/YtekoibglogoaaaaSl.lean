/- Slices of plain things, as they lie in memory. -/
import Derived.Test.YtekoibglogoaaaaCa
import Derived.BigQuiet
namespace Go.Proofs.Ytekoibglogoaaaa
open Go Go.RowKit Go.Shelf
set_option linter.unusedVariables false
set_option linter.unusedSimpArgs false

structure Msg where
  k : K
  d : Bool
  v : K
structure Pr where
  k : K
  v : K
instance : DecidableEq Msg := fun a b => if h : a.k = b.k ∧ a.d = b.d ∧ a.v = b.v then isTrue (by cases a; cases b; simp_all) else isFalse (fun e => h (by rw [e]; exact ⟨rfl, rfl, rfl⟩))
instance : DecidableEq Pr := fun a b => if h : a.k = b.k ∧ a.v = b.v then isTrue (by cases a; cases b; simp_all) else isFalse (fun e => h (by rw [e]; exact ⟨rfl, rfl⟩))
abbrev U := { x : Int // 0 ≤ x ∧ x ≤ 4294967295 }
def encM (m : Msg) : List Value := [.string m.k.1, .bool m.d, .string m.v.1]
def encP (p : Pr) : List Value := [.string p.k.1, .string p.v.1]
def encU (x : U) : List Value := [.int .u32 x.1]
def encS (s : K) : List Value := [.string s.1]

/-- A slice that reads as a list. -/
def Sl {α : Type} (enc : α → List Value) (sz : Nat) (w : World) (v : Value) (xs : List α) : Prop :=
  ∃ A cap, v = .slice A xs.length cap ∧ xs.length ≤ cap ∧ cap ≤ 9223372036854775807 ∧ (0 < xs.length → ∃ b off, A = some ⟨b, off, none⟩ ∧ b < w.heap.size ∧ ∀ i x, xs[i]? = some x → ∀ j u, (enc x)[j]? = some u → w.cell? ⟨b, off + i * sz + j, none⟩ = some u)

section
variable {α : Type} {enc : α → List Value} {sz : Nat} {w w' : World} {v : Value} {xs : List α}
theorem Sl.chg {S : Nat → Prop} (h : Sl enc sz w v xs) (hc : Chg S w w') (hS : ∀ b off l c, v = .slice (some ⟨b, off, none⟩) l c → 0 < l → ¬ S b) : Sl enc sz w' v xs := by
  obtain ⟨A, cap, rfl, h1, h2, h3⟩ := h
  refine ⟨A, cap, rfl, h1, h2, fun h0 => ?_⟩
  obtain ⟨b, off, rfl, hb, hx⟩ := h3 h0
  exact ⟨b, off, rfl, Nat.lt_of_lt_of_le hb hc.size, fun i x hi j u hu => hc.cell (hx i x hi j u hu) (hS b off _ _ rfl h0)⟩
theorem Sl.still (h : Sl enc sz w v xs) (hc : Still w w') : Sl enc sz w' v xs := h.chg hc (fun _ _ _ _ _ _ => id)
theorem Sl.lenLe (h : Sl enc sz w v xs) : xs.length ≤ 9223372036854775807 := by
  obtain ⟨A, cap, rfl, h1, h2, h3⟩ := h
  exact Nat.le_trans h1 h2
theorem Sl.form (h : Sl enc sz w v xs) : ∃ A cap, v = .slice A xs.length cap ∧ xs.length ≤ cap ∧ cap ≤ 9223372036854775807 := by
  obtain ⟨A, cap, rfl, h1, h2, h3⟩ := h
  exact ⟨A, cap, rfl, h1, h2⟩
end

section
variable {w : World} {A : Option Addr} {n c : Nat}
theorem getElem?_getD {α : Type} {xs : List α} {i : Nat} (h : i < xs.length) : xs[i]? = some xs[i] := List.getElem?_eq_getElem h
/-- The cells of a place. -/
theorem Sl.msg {xs : List Msg} (h : Sl encM 3 w (.slice A n c) xs) (i : Nat) (hi : i < xs.length) :
    ∃ b off, A = some ⟨b, off, none⟩ ∧ b < w.heap.size ∧ w.cell? ⟨b, off + i * 3, none⟩ = some (.string (xs[i]).k.1) ∧ w.cell? ⟨b, off + i * 3 + 1, none⟩ = some (.bool (xs[i]).d) ∧ w.cell? ⟨b, off + i * 3 + 2, none⟩ = some (.string (xs[i]).v.1) := by
  obtain ⟨A', cap, e, h1, h2, h3⟩ := h
  simp only [Value.slice.injEq] at e
  obtain ⟨rfl, _, _⟩ := e
  obtain ⟨b, off, rfl, hb, hx⟩ := h3 (by omega)
  have hi' := List.getElem?_eq_getElem hi
  exact ⟨b, off, rfl, hb, hx i _ hi' 0 _ rfl, hx i _ hi' 1 _ rfl, hx i _ hi' 2 _ rfl⟩
theorem Sl.pr {xs : List Pr} (h : Sl encP 2 w (.slice A n c) xs) (i : Nat) (hi : i < xs.length) :
    ∃ b off, A = some ⟨b, off, none⟩ ∧ b < w.heap.size ∧ w.cell? ⟨b, off + i * 2, none⟩ = some (.string (xs[i]).k.1) ∧ w.cell? ⟨b, off + i * 2 + 1, none⟩ = some (.string (xs[i]).v.1) := by
  obtain ⟨A', cap, e, h1, h2, h3⟩ := h
  simp only [Value.slice.injEq] at e
  obtain ⟨rfl, _, _⟩ := e
  obtain ⟨b, off, rfl, hb, hx⟩ := h3 (by omega)
  have hi' := List.getElem?_eq_getElem hi
  exact ⟨b, off, rfl, hb, hx i _ hi' 0 _ rfl, hx i _ hi' 1 _ rfl⟩
theorem Sl.u {xs : List U} (h : Sl encU 1 w (.slice A n c) xs) (i : Nat) (hi : i < xs.length) : ∃ b off, A = some ⟨b, off, none⟩ ∧ b < w.heap.size ∧ w.cell? ⟨b, off + i, none⟩ = some (.int .u32 (xs[i]).1) := by
  obtain ⟨A', cap, e, h1, h2, h3⟩ := h
  simp only [Value.slice.injEq] at e
  obtain ⟨rfl, _, _⟩ := e
  obtain ⟨b, off, rfl, hb, hx⟩ := h3 (by omega)
  have hi' := List.getElem?_eq_getElem hi
  exact ⟨b, off, rfl, hb, by have := hx i _ hi' 0 _ rfl; rw [Nat.mul_one] at this; exact this⟩
theorem Sl.s {xs : List K} (h : Sl encS 1 w (.slice A n c) xs) (i : Nat) (hi : i < xs.length) : ∃ b off, A = some ⟨b, off, none⟩ ∧ b < w.heap.size ∧ w.cell? ⟨b, off + i, none⟩ = some (.string (xs[i]).1) := by
  obtain ⟨A', cap, e, h1, h2, h3⟩ := h
  simp only [Value.slice.injEq] at e
  obtain ⟨rfl, _, _⟩ := e
  obtain ⟨b, off, rfl, hb, hx⟩ := h3 (by omega)
  have hi' := List.getElem?_eq_getElem hi
  exact ⟨b, off, rfl, hb, by have := hx i _ hi' 0 _ rfl; rw [Nat.mul_one] at this; exact this⟩
end
/-- The number in a value. -/
def nv : Value → Nat | .int _ n => n.toNat | _ => 0
end Go.Proofs.Ytekoibglogoaaaa
