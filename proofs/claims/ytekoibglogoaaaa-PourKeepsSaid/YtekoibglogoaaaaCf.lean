/- Spans of kids, and ways, by their contracts. -/
import Derived.Test.YtekoibglogoaaaaCe
namespace Go.Proofs.Ytekoibglogoaaaa
open Go Go.RowKit Go.Shelf
set_option linter.unusedVariables false
set_option linter.unusedSimpArgs false

def allSp : Sp := ⟨k0, k0, true⟩
def zeroSp : Sp := ⟨k0, k0, false⟩
theorem maxS_k0 (a : K) : Lib.maxS a.1 k0.1 = a.1 := by
  unfold Lib.maxS
  rw [if_neg]
  have := kt_empty a
  unfold kt kl at this
  simpa using this
theorem run_max0 (a : K) (ts : Array TypeId) (t : TypeId) (w : World) : (Builtin.max_ ts t #[.string a.1, .string k0.1]).run Try.prog w = .ok (.string a.1) w := by
  rw [Lib.run_max_strs, maxS_k0]

theorem alloc2_at (w : World) (a b : Obj) : ((w.alloc a).alloc b).heap[w.heap.size]? = some a ∧ ((w.alloc a).alloc b).heap[w.heap.size + 1]? = some b := by
  have h1 := heap_alloc_new w a
  have h2 := heap_alloc_new (w.alloc a) b
  have s1 := size_al w a
  rw [s1] at h2
  exact ⟨(Chg.alloc (S := fun _ => False) (w.alloc a) b).heap h1 id, h2⟩
theorem alloc4_at (w : World) (a b c d : Obj) : ((((w.alloc a).alloc b).alloc c).alloc d).heap[w.heap.size]? = some a ∧ ((((w.alloc a).alloc b).alloc c).alloc d).heap[w.heap.size + 1]? = some b ∧
    ((((w.alloc a).alloc b).alloc c).alloc d).heap[w.heap.size + 1 + 1]? = some c ∧ ((((w.alloc a).alloc b).alloc c).alloc d).heap[w.heap.size + 1 + 1 + 1]? = some d := by
  obtain ⟨h1, h2⟩ := alloc2_at w a b
  obtain ⟨h3, h4⟩ := alloc2_at ((w.alloc a).alloc b) c d
  have s1 : ((w.alloc a).alloc b).heap.size = w.heap.size + 1 + 1 := by rw [size_al, size_al]
  rw [s1] at h3 h4
  have hc := (Chg.alloc (S := fun _ => False) ((w.alloc a).alloc b) c).trans (Chg.alloc _ d)
  exact ⟨hc.heap h1 id, hc.heap h2 id, h3, h4⟩
def MeetP (a : Sp) (w : World) (e : Ending) (w' : World) : Prop := e = .returned (.tuple #[(if emptySp a then zeroSp else a).v, .bool (!emptySp a)]) ∧ Still w w'
theorem set3 {w w1 : World} {b : Nat} (h : Still w w1) (hb : w.heap.size ≤ b) (u0 u1 u2 : Value) : Still w (((w1.setCell ⟨b, 0, none⟩ u0).setCell ⟨b, 1, none⟩ u1).setCell ⟨b, 2, none⟩ u2) :=
  ((h.setNew _ _ (.inr hb)).setNew _ _ (.inr hb)).setNew _ _ (.inr hb)
theorem still4 (w : World) (a b c d : Obj) : Still w ((((w.alloc a).alloc b).alloc c).alloc d) := (((Chg.alloc w a).allocs b).allocs c).allocs d
set_option maxRecDepth 100000 in
set_option maxHeartbeats 1000000 in
theorem meet_all (a : Sp) (h : a.top = true → a.hi = k0) (w : World) : Calls Try.prog 42 #[a.v, allSp.v] w (MeetP a w) := by
  have HE := Lib.hid (lempty a)
  unfold MeetP
  generalize emptySp a = g at *
  obtain ⟨lo, hi, top⟩ := a
  unfold allSp zeroSp Sp.v at *
  simp only at *
  have hmx := run_max0 lo
  cases top with
  | true =>
    have h1 : hi = k0 := h rfl
    subst h1
    clear h
    go_enter Try.func42, Try.ntmps42
    go_wp2_with fail
    refine (HE.out _).mono ?_
    rintro e w1 ⟨rfl, hs⟩
    obtain ⟨h1, h2, h3, h4⟩ := alloc4_at w (.cells #[.string lo.1, .string k0.1, .bool true] 37) (.cells #[.string k0.1, .string k0.1, .bool true] 37) (.cells #[.string ⟨#[]⟩, .string ⟨#[]⟩, .bool false] 37) (.cells #[.string lo.1, .string ⟨#[]⟩, .bool true] 37)
    have HW := Lib.hid ((still4 w _ _ _ _).trans hs)
    have g3 := hs.heap h3 id
    have g4 := hs.heap h4 id
    have q0 := heap_cell (j := 0) g3 rfl
    have q1 := heap_cell (j := 1) g3 rfl
    have q2 := heap_cell (j := 2) g3 rfl
    have f0 := heap_free (j := 0) g3
    have f1 := heap_free (j := 1) g3
    have f2 := heap_free (j := 2) g3
    have r0 := heap_cell (j := 0) g4 rfl
    have r1 := heap_cell (j := 1) g4 rfl
    have r2 := heap_cell (j := 2) g4 rfl
    clear h1 h2 h3 h4 g3 g4 hs
    cases g with
    | true =>
      go_wp2
      refine bodyPost_ret (v := .tuple #[.agg #[.string ⟨#[]⟩, .string ⟨#[]⟩, .bool false], .bool false]) (by simp [results, Try.results42, go_sem, *]) rfl ?_
      exact ⟨rfl, set3 HW.out (by omega) _ _ _⟩
    | false =>
      go_wp2
      refine bodyPost_ret (v := .tuple #[.agg #[.string lo.1, .string ⟨#[]⟩, .bool true], .bool true]) (by simp [results, Try.results42, go_sem, *]) rfl ?_
      exact ⟨rfl, set3 HW.out (by omega) _ _ _⟩
  | false =>
    clear h
    go_enter Try.func42, Try.ntmps42
    go_wp2_with fail
    refine (HE.out _).mono ?_
    rintro e w1 ⟨rfl, hs⟩
    obtain ⟨h1, h2, h3, h4⟩ := alloc4_at w (.cells #[.string lo.1, .string hi.1, .bool false] 37) (.cells #[.string k0.1, .string k0.1, .bool true] 37) (.cells #[.string ⟨#[]⟩, .string ⟨#[]⟩, .bool false] 37) (.cells #[.string lo.1, .string hi.1, .bool false] 37)
    have HW := Lib.hid ((still4 w _ _ _ _).trans hs)
    have g3 := hs.heap h3 id
    have g4 := hs.heap h4 id
    have q0 := heap_cell (j := 0) g3 rfl
    have q1 := heap_cell (j := 1) g3 rfl
    have q2 := heap_cell (j := 2) g3 rfl
    have f0 := heap_free (j := 0) g3
    have f1 := heap_free (j := 1) g3
    have f2 := heap_free (j := 2) g3
    have r0 := heap_cell (j := 0) g4 rfl
    have r1 := heap_cell (j := 1) g4 rfl
    have r2 := heap_cell (j := 2) g4 rfl
    clear h1 h2 h3 h4 g3 g4 hs
    cases g with
    | true =>
      go_wp2
      refine bodyPost_ret (v := .tuple #[.agg #[.string ⟨#[]⟩, .string ⟨#[]⟩, .bool false], .bool false]) (by simp [results, Try.results42, go_sem, *]) rfl ?_
      exact ⟨rfl, set3 HW.out (by omega) _ _ _⟩
    | false =>
      go_wp2
      refine bodyPost_ret (v := .tuple #[.agg #[.string lo.1, .string hi.1, .bool false], .bool true]) (by simp [results, Try.results42, go_sem, *]) rfl ?_
      exact ⟨rfl, set3 HW.out (by omega) _ _ _⟩
end Go.Proofs.Ytekoibglogoaaaa
