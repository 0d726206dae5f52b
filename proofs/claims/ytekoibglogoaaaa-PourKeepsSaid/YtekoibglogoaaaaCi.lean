/- Nodes as they lie in memory; which keys may be; which nodes are great: by their contracts. -/
import Derived.Test.YtekoibglogoaaaaCh
namespace Go.Proofs.Ytekoibglogoaaaa
open Go Go.RowKit Go.Shelf
set_option linter.unusedVariables false
set_option linter.unusedSimpArgs false

structure Nd where
  lev : Int
  kids : List U
  piv : List K
  buf : List Msg
  prs : List Pr
/-- A value that reads as a node. -/
def NodeV (w : World) (v : Value) (n : Nd) : Prop :=
  ∃ v1 v2 v3 v4, v = .agg #[.int .i64 n.lev, v1, v2, v3, v4] ∧ Sl encU 1 w v1 n.kids ∧ Sl encS 1 w v2 n.piv ∧ Sl encM 3 w v3 n.buf ∧ Sl encP 2 w v4 n.prs
theorem NodeV.still {w w' : World} {v : Value} {n : Nd} (h : NodeV w v n) (hs : Still w w') : NodeV w' v n := by
  obtain ⟨v1, v2, v3, v4, rfl, h1, h2, h3, h4⟩ := h
  exact ⟨v1, v2, v3, v4, rfl, h1.still hs, h2.still hs, h3.still hs, h4.still hs⟩
/-- A block that holds a node. -/
def Cells5 (w : World) (b : Nat) (l : Int) (v1 v2 v3 v4 : Value) : Prop := w.cell? ⟨b, 0, none⟩ = some (.int .i64 l) ∧ w.cell? ⟨b, 1, none⟩ = some v1 ∧ w.cell? ⟨b, 2, none⟩ = some v2 ∧ w.cell? ⟨b, 3, none⟩ = some v3 ∧ w.cell? ⟨b, 4, none⟩ = some v4
theorem Cells5.new (w : World) (l : Int) (v1 v2 v3 v4 : Value) : Cells5 (w.alloc (.cells #[.int .i64 l, v1, v2, v3, v4] 29)) w.heap.size l v1 v2 v3 v4 := by
  have h := heap_alloc_new w (.cells #[.int .i64 l, v1, v2, v3, v4] 29)
  exact ⟨heap_cell h rfl, heap_cell h rfl, heap_cell h rfl, heap_cell h rfl, heap_cell h rfl⟩
theorem Cells5.still {w w' : World} {b : Nat} {l : Int} {v1 v2 v3 v4 : Value} (h : Cells5 w b l v1 v2 v3 v4) (hs : Still w w') : Cells5 w' b l v1 v2 v3 v4 := by
  obtain ⟨h0, h1, h2, h3, h4⟩ := h
  exact ⟨hs.cell h0 id, hs.cell h1 id, hs.cell h2 id, hs.cell h3 id, hs.cell h4 id⟩

def keyB (c : Conf) (k : K) : Bool := decide (1 ≤ (k.1.size : Int)) && decide ((k.1.size : Int) ≤ c.key)
theorem key13 (c : Conf) (k : K) (w : World) : Calls Try.prog 53 #[.agg c.vs, .string k.1] w fun e w' => e = .returned (.bool (keyB c k)) ∧ Still w w' := by
  have hk := k.2
  obtain ⟨c0, c1, c2, c3, c4, c5, c6, c7⟩ := c
  unfold Conf.vs keyB
  simp only
  by_cases h1 : 1 ≤ k.1.size
  · by_cases h2 : (k.1.size : Int) ≤ c6
    · rw [show (decide (1 ≤ (k.1.size : Int)) && decide ((k.1.size : Int) ≤ c6)) = true by simp; omega]
      go_enter Try.func53, Try.ntmps53
      go_wp2
      go_ret
      exact ⟨rfl, Chg.alloc w _⟩
    · rw [show (decide (1 ≤ (k.1.size : Int)) && decide ((k.1.size : Int) ≤ c6)) = false by simp; omega]
      go_enter Try.func53, Try.ntmps53
      go_wp2
      go_ret
      exact ⟨rfl, Chg.alloc w _⟩
  · rw [show (decide (1 ≤ (k.1.size : Int)) && decide ((k.1.size : Int) ≤ c6)) = false by simp; omega]
    go_enter Try.func53, Try.ntmps53
    go_wp2
    go_ret
    exact ⟨rfl, Chg.alloc w _⟩

def Small (n : Nd) : Prop := n.kids.length ≤ 80 ∧ n.piv.length ≤ 80 ∧ n.buf.length ≤ 150 ∧ n.prs.length ≤ 150
def GreatP (n : Nd) (w : World) (e : Ending) (w' : World) : Prop := ∃ b : Bool, e = .returned (.bool b) ∧ Hid (b = false → Small n) ∧ Still w w'
set_option maxRecDepth 100000 in
set_option maxHeartbeats 2000000 in
theorem great {w : World} {v : Value} {n : Nd} (h : NodeV w v n) : Calls Try.prog 12 #[v] w (GreatP n w) := by
  obtain ⟨v1, v2, v3, v4, rfl, h1, h2, h3, h4⟩ := h
  obtain ⟨A1, c1, rfl, a1, b1⟩ := h1.form
  obtain ⟨A2, c2, rfl, a2, b2⟩ := h2.form
  obtain ⟨A3, c3, rfl, a3, b3⟩ := h3.form
  obtain ⟨A4, c4, rfl, a4, b4⟩ := h4.form
  have H2 := Lib.hid h2
  have H3 := Lib.hid h3
  have H4 := Lib.hid h4
  clear h1 h2 h3 h4
  have hT : ∀ w', Still w w' → GreatP n w (.returned (.bool true)) w' := fun w' hs => ⟨true, rfl, Lib.hid (fun h => by simp at h), hs⟩
  have HT := Lib.hid hT
  clear hT
  by_cases g1 : n.kids.length ≤ 80
  case neg =>
    go_enter Try.func12, Try.ntmps12
    go_wp2
    go_ret
    exact HT.out _ (Chg.alloc w _)
  by_cases g2 : n.piv.length ≤ 80
  case neg =>
    go_enter Try.func12, Try.ntmps12
    go_wp2
    go_ret
    exact HT.out _ (Chg.alloc w _)
  by_cases g3 : n.buf.length ≤ 150
  case neg =>
    go_enter Try.func12, Try.ntmps12
    go_wp2
    go_ret
    exact HT.out _ (Chg.alloc w _)
  by_cases g4 : n.prs.length ≤ 150
  case neg =>
    go_enter Try.func12, Try.ntmps12
    go_wp2
    go_ret
    exact HT.out _ (Chg.alloc w _)
  have HC := Lib.hid (Cells5.new w n.lev (.slice A1 n.kids.length c1) (.slice A2 n.piv.length c2) (.slice A3 n.buf.length c3) (.slice A4 n.prs.length c4))
  have HF : Hid (∀ w', Still w w' → GreatP n w (.returned (.bool false)) w') := fun w' hs => ⟨false, rfl, Lib.hid (fun h => ⟨g1, g2, g3, g4⟩), hs⟩
  have hS0 := Lib.hid (Chg.alloc (S := fun _ => False) w (.cells #[.int .i64 n.lev, .slice A1 n.kids.length c1, .slice A2 n.piv.length c2, .slice A3 n.buf.length c3, .slice A4 n.prs.length c4] 29))
  go_enter Try.func12, Try.ntmps12
  go_wp2_with fail
  generalize w.alloc (.cells #[.int .i64 n.lev, .slice A1 n.kids.length c1, .slice A2 n.piv.length c2, .slice A3 n.buf.length c3, .slice A4 n.prs.length c4] 29) = w1 at *
  generalize w.heap.size = g at *
  go_loopw [3] (fun i wr => ∃ k : Nat, k ≤ n.piv.length ∧ i = .int .i64 (k : Nat) ∧ w1 = wr) (fun i _ => n.piv.length - nv i)
  case atStart => exact ⟨0, Nat.zero_le _, rfl, rfl⟩
  case round =>
    obtain ⟨k, hk, rfl, rfl⟩ := hrel
    obtain ⟨-, -, q2, -, -⟩ := HC.out
    by_cases hlt : k < n.piv.length
    · obtain ⟨b, off, rfl, hb, hc0⟩ := (H2.out.still hS0.out).s k hlt
      generalize n.piv[k] = x at hc0
      have hx := x.2
      by_cases hs : x.1.size ≤ 200
      · go_wp2
        go_roundw
        case rel => exact ⟨k + 1, by omega, by go_num, by trivial⟩
        case measure => simp [nv]; omega
      · go_wp2
        go_ret
        exact HT.out _ hS0.out
    · go_wp2_with fail
      clear q2
      go_loopw [4] (fun i wr => ∃ k : Nat, k ≤ n.buf.length ∧ i = .int .i64 (k : Nat) ∧ w1 = wr) (fun i _ => n.buf.length - nv i)
      case atStart => exact ⟨0, Nat.zero_le _, rfl, rfl⟩
      case round =>
        obtain ⟨k, hk, rfl, rfl⟩ := hrel
        obtain ⟨-, -, -, q3, -⟩ := HC.out
        by_cases hlt : k < n.buf.length
        · obtain ⟨b, off, rfl, hb, hc0, -, -⟩ := (H3.out.still hS0.out).msg k hlt
          generalize n.buf[k] = x at hc0
          have hx := x.k.2
          by_cases hs : x.k.1.size ≤ 200
          · go_wp2
            go_roundw
            case rel => exact ⟨k + 1, by omega, by go_num, by trivial⟩
            case measure => simp [nv]; omega
          · go_wp2
            go_ret
            exact HT.out _ hS0.out
        · go_wp2_with fail
          clear q3
          go_loopw [5] (fun i wr => ∃ k : Nat, k ≤ n.prs.length ∧ i = .int .i64 (k : Nat) ∧ w1 = wr) (fun i _ => n.prs.length - nv i)
          case atStart => exact ⟨0, Nat.zero_le _, rfl, rfl⟩
          case round =>
            obtain ⟨k, hk, rfl, rfl⟩ := hrel
            obtain ⟨-, -, -, -, q4⟩ := HC.out
            by_cases hlt : k < n.prs.length
            · obtain ⟨b, off, rfl, hb, hc0, -⟩ := (H4.out.still hS0.out).pr k hlt
              generalize n.prs[k] = x at hc0
              have hx := x.k.2
              by_cases hs : x.k.1.size ≤ 200
              · go_wp2
                go_roundw
                case rel => exact ⟨k + 1, by omega, by go_num, by trivial⟩
                case measure => simp [nv]; omega
              · go_wp2
                go_ret
                exact HT.out _ hS0.out
            · go_wp2
              go_ret
              exact HF.out _ hS0.out
end Go.Proofs.Ytekoibglogoaaaa
