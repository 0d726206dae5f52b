/- Leaves that may be, by their contract. -/
import Derived.Test.YtekoibglogoaaaaCi
namespace Go.Proofs.Ytekoibglogoaaaa
open Go Go.RowKit Go.Shelf
set_option linter.unusedVariables false
set_option linter.unusedSimpArgs false

theorem cell_lt {w : World} {b j : Nat} {v : Value} (h : w.cell? ⟨b, j, none⟩ = some v) : b < w.heap.size := by
  unfold World.cell? at h
  simp only at h
  cases e : w.heap[b]? with
  | none => rw [e] at h; simp at h
  | some o => exact (Array.getElem?_eq_some_iff.1 e).1
theorem BoolP.t {p : Prop} {w w' : World} (h : p) (hs : Still w w') : BoolP p w (.returned (.bool true)) w' := ⟨true, rfl, Lib.hid ⟨fun _ => h, fun _ => rfl⟩, hs⟩
theorem BoolP.f {p : Prop} {w w' : World} (h : ¬ p) (hs : Still w w') : BoolP p w (.returned (.bool false)) w' := ⟨false, rfl, Lib.hid ⟨fun h => by simp at h, fun h' => absurd h' h⟩, hs⟩
/-- A block that holds a span. -/
def Cells3 (w : World) (b : Nat) (s : Sp) : Prop := w.cell? ⟨b, 0, none⟩ = some (.string s.lo.1) ∧ w.cell? ⟨b, 1, none⟩ = some (.string s.hi.1) ∧ w.cell? ⟨b, 2, none⟩ = some (.bool s.top)
theorem Cells3.new (w : World) (s : Sp) : Cells3 (w.alloc (.cells #[.string s.lo.1, .string s.hi.1, .bool s.top] 37)) w.heap.size s := by
  have h := heap_alloc_new w (.cells #[.string s.lo.1, .string s.hi.1, .bool s.top] 37)
  exact ⟨heap_cell h rfl, heap_cell h rfl, heap_cell h rfl⟩
theorem Cells3.still {w w' : World} {b : Nat} {s : Sp} (h : Cells3 w b s) (hs : Still w w') : Cells3 w' b s := by
  obtain ⟨h0, h1, h2⟩ := h
  exact ⟨hs.cell h0 id, hs.cell h1 id, hs.cell h2 id⟩
def valB (c : Conf) (k : K) : Bool := decide ((k.1.size : Int) ≤ c.val)
def okPr (c : Conf) (s : Sp) (p : Pr) : Bool := keyB c p.k && inSp s p.k && valB c p.v
def OuterP (c : Conf) (s : Sp) (n : Nd) : Prop := (∀ (i : Nat) (p : Pr), n.prs[i]? = some p → okPr c s p = true) ∧ n.kids.length = 0 ∧ n.piv.length = 0 ∧ n.buf.length = 0 ∧ (n.prs.length : Int) ≤ c.leaf ∧ Rises Pr.k n.prs

/-- What stands when the three are boxed. -/
structure Boxed (c : Conf) (s : Sp) (n : Nd) (v1 v2 v3 v4 : Value) (w w1 : World) (g : Nat) : Prop where
  conf : Cells8 w1 g c.blocks c.bytes c.frames c.fan c.buffer c.leaf c.key c.val
  span : Cells3 w1 (g + 1) s
  node : Cells5 w1 (g + 1 + 1) n.lev v1 v2 v3 v4
  still : Still w w1
  s1 : Sl encU 1 w1 v1 n.kids
  s2 : Sl encS 1 w1 v2 n.piv
  s3 : Sl encM 3 w1 v3 n.buf
  s4 : Sl encP 2 w1 v4 n.prs
theorem Boxed.move {c : Conf} {s : Sp} {n : Nd} {v1 v2 v3 v4 : Value} {w w1 w2 : World} {g : Nat} (h : Boxed c s n v1 v2 v3 v4 w w1 g) (hs : Still w1 w2) : Boxed c s n v1 v2 v3 v4 w w2 g :=
  ⟨h.conf.still hs, h.span.still hs, h.node.still hs, h.still.trans hs, h.s1.still hs, h.s2.still hs, h.s3.still hs, h.s4.still hs⟩
theorem Boxed.new (c : Conf) (s : Sp) (n : Nd) {v1 v2 v3 v4 : Value} {w : World} (h1 : Sl encU 1 w v1 n.kids) (h2 : Sl encS 1 w v2 n.piv) (h3 : Sl encM 3 w v3 n.buf) (h4 : Sl encP 2 w v4 n.prs) :
    Boxed c s n v1 v2 v3 v4 w (((w.alloc (.cells #[.int .i64 c.blocks, .int .i64 c.bytes, .int .i64 c.frames, .int .i64 c.fan, .int .i64 c.buffer, .int .i64 c.leaf, .int .i64 c.key, .int .i64 c.val] 23)).alloc (.cells #[.string s.lo.1, .string s.hi.1, .bool s.top] 37)).alloc (.cells #[.int .i64 n.lev, v1, v2, v3, v4] 29)) w.heap.size := by
  have e1 := size_al w (.cells #[.int .i64 c.blocks, .int .i64 c.bytes, .int .i64 c.frames, .int .i64 c.fan, .int .i64 c.buffer, .int .i64 c.leaf, .int .i64 c.key, .int .i64 c.val] 23)
  have e2 := size_al (w.alloc (.cells #[.int .i64 c.blocks, .int .i64 c.bytes, .int .i64 c.frames, .int .i64 c.fan, .int .i64 c.buffer, .int .i64 c.leaf, .int .i64 c.key, .int .i64 c.val] 23)) (.cells #[.string s.lo.1, .string s.hi.1, .bool s.top] 37)
  have k1 := Cells8.new w c.blocks c.bytes c.frames c.fan c.buffer c.leaf c.key c.val
  have k2 := Cells3.new (w.alloc (.cells #[.int .i64 c.blocks, .int .i64 c.bytes, .int .i64 c.frames, .int .i64 c.fan, .int .i64 c.buffer, .int .i64 c.leaf, .int .i64 c.key, .int .i64 c.val] 23)) s
  have k3 := Cells5.new ((w.alloc (.cells #[.int .i64 c.blocks, .int .i64 c.bytes, .int .i64 c.frames, .int .i64 c.fan, .int .i64 c.buffer, .int .i64 c.leaf, .int .i64 c.key, .int .i64 c.val] 23)).alloc (.cells #[.string s.lo.1, .string s.hi.1, .bool s.top] 37)) n.lev v1 v2 v3 v4
  rw [e2, e1] at k3
  rw [e1] at k2
  have hs := ((Chg.alloc (S := fun _ => False) w (.cells #[.int .i64 c.blocks, .int .i64 c.bytes, .int .i64 c.frames, .int .i64 c.fan, .int .i64 c.buffer, .int .i64 c.leaf, .int .i64 c.key, .int .i64 c.val] 23)).allocs (.cells #[.string s.lo.1, .string s.hi.1, .bool s.top] 37)).allocs (.cells #[.int .i64 n.lev, v1, v2, v3, v4] 29)
  exact ⟨k1.still ((Chg.alloc _ _).allocs _), k2.still (Chg.alloc _ _), k3, hs, h1.still hs, h2.still hs, h3.still hs, h4.still hs⟩

set_option maxRecDepth 100000 in
set_option maxHeartbeats 1000000 in
theorem outer13 (c : Conf) (s : Sp) {w : World} {v : Value} {n : Nd} (h : NodeV w v n) (hsm : n.prs.length ≤ 4294967296) : Calls Try.prog 30 #[.agg c.vs, s.v, v] w (BoolP (OuterP c s n) w) := by
  obtain ⟨v1, v2, v3, v4, rfl, h1, h2, h3, h4⟩ := h
  have HB := Lib.hid (Boxed.new c s n h1 h2 h3 h4)
  obtain ⟨A1, c1, rfl, a1, b1⟩ := h1.form
  obtain ⟨A2, c2, rfl, a2, b2⟩ := h2.form
  obtain ⟨A3, c3, rfl, a3, b3⟩ := h3.form
  obtain ⟨A4, c4, rfl, a4, b4⟩ := h4.form
  have HK := key13 c
  have HI := in1_ s
  have HT : Hid (∀ w', OuterP c s n → Still w w' → BoolP (OuterP c s n) w (.returned (.bool true)) w') := fun w' => BoolP.t
  have HF : Hid (∀ w', ¬ OuterP c s n → Still w w' → BoolP (OuterP c s n) w (.returned (.bool false)) w') := fun w' => BoolP.f
  have HD : Hid (OuterP c s n ↔ (∀ (i : Nat) (p : Pr), n.prs[i]? = some p → okPr c s p = true) ∧ n.kids.length = 0 ∧ n.piv.length = 0 ∧ n.buf.length = 0 ∧ (n.prs.length : Int) ≤ c.leaf ∧ Rises Pr.k n.prs) := Lib.hid Iff.rfl
  generalize OuterP c s n = OP at *
  clear h1 h2 h3 h4
  unfold Sp.v Conf.vs at *
  go_enter Try.func30, Try.ntmps30
  go_wp2_with fail
  generalize (((w.alloc (.cells #[.int .i64 c.blocks, .int .i64 c.bytes, .int .i64 c.frames, .int .i64 c.fan, .int .i64 c.buffer, .int .i64 c.leaf, .int .i64 c.key, .int .i64 c.val] 23)).alloc (.cells #[.string s.lo.1, .string s.hi.1, .bool s.top] 37)).alloc (.cells #[.int .i64 n.lev, .slice A1 n.kids.length c1, .slice A2 n.piv.length c2, .slice A3 n.buf.length c3, .slice A4 n.prs.length c4] 29)) = w1 at *
  generalize w.heap.size = g at *
  go_loopw [7] (fun i wr => ∃ k : Nat, k ≤ n.prs.length ∧ i = .int .i64 (k : Nat) ∧ Hid (∀ (i : Nat) (p : Pr), i < k → n.prs[i]? = some p → okPr c s p = true) ∧ Still w1 wr) (fun i _ => n.prs.length - nv i)
  case atStart => exact ⟨0, Nat.zero_le _, rfl, Lib.hid (fun i p h => by omega), Chg.refl _ _⟩
  case round =>
    obtain ⟨k, hk, rfl, HR, hs⟩ := hrel
    have HB1 := Lib.hid (HB.out.move hs)
    have HS1 := Lib.hid hs
    clear hs
    by_cases hlt : k < n.prs.length
    · obtain ⟨b, off, rfl, hb, hc0, hc1⟩ := HB1.out.s4.pr k hlt
      have HX := Lib.hid (ge_some hlt)
      generalize n.prs[k] = x at hc0 hc1 HX
      obtain ⟨-, -, -, -, m4⟩ := HB1.out.node
      have q0 := fun o => (HB1.out.move (Chg.alloc wr o)).conf.1
      have q1 := fun o => (HB1.out.move (Chg.alloc wr o)).conf.2.1
      have q2 := fun o => (HB1.out.move (Chg.alloc wr o)).conf.2.2.1
      have q3 := fun o => (HB1.out.move (Chg.alloc wr o)).conf.2.2.2.1
      have q4 := fun o => (HB1.out.move (Chg.alloc wr o)).conf.2.2.2.2.1
      have q5 := fun o => (HB1.out.move (Chg.alloc wr o)).conf.2.2.2.2.2.1
      have q6 := fun o => (HB1.out.move (Chg.alloc wr o)).conf.2.2.2.2.2.2.1
      have q7 := fun o => (HB1.out.move (Chg.alloc wr o)).conf.2.2.2.2.2.2.2
      go_wp2_with fail
      refine (HK x.k _).mono ?_
      rintro e w2 ⟨rfl, hs⟩
      have l0 := hs.cell (heap_cell (j := 0) (heap_alloc_new wr (.cells #[.string x.k.1, .string x.v.1] 47)) rfl) id
      have HB2 := Lib.hid (HB1.out.move ((Chg.alloc wr _).trans hs))
      have l1 := hs.cell (heap_cell (j := 1) (heap_alloc_new wr (.cells #[.string x.k.1, .string x.v.1] 47)) rfl) id
      have HS2 := Lib.hid ((HS1.out.allocs _).trans hs)
      clear q0 q1 q2 q3 q4 q5 q6 q7 hs m4 hc0 hc1
      cases hkb : keyB c x.k with
      | false =>
        have HN : Hid (¬ OP) := Lib.hid (fun h => by
          have := (HD.out.1 h).1 k x HX.out
          unfold okPr at this
          rw [hkb] at this
          simp at this)
        clear hkb
        go_wp2
        go_ret
        exact HF.out _ HN.out HB2.out.still
      | true =>
        have HKB := Lib.hid hkb
        clear hkb
        obtain ⟨p0, p1, p2⟩ := HB2.out.span
        go_wp2_with fail
        refine (HI x.k _).mono ?_
        rintro e w3 ⟨rfl, hs⟩
        have k0' := hs.cell l0 id
        have k1' := hs.cell l1 id
        have HB3 := Lib.hid (HB2.out.move hs)
        have HWS := Lib.hid (HS2.out.trans hs)
        clear l0 l1 p0 p1 p2 hs
        cases hib : inSp s x.k with
        | false =>
          have HN : Hid (¬ OP) := Lib.hid (fun h => by
            have := (HD.out.1 h).1 k x HX.out
            unfold okPr at this
            rw [hib] at this
            simp at this)
          clear hib
          go_wp2
          go_ret
          exact HF.out _ HN.out HB3.out.still
        | true =>
          have HIB := Lib.hid hib
          clear hib
          have hq7 := HB3.out.conf.2.2.2.2.2.2.2
          have hxv := x.v.2
          by_cases hv : (x.v.1.size : Int) ≤ c.val
          · have HR2 : Hid (∀ (i : Nat) (p : Pr), i < k + 1 → n.prs[i]? = some p → okPr c s p = true) := Lib.hid (fun i p h1 h2 => by
              by_cases e : i = k
              · subst e
                rw [HX.out] at h2
                simp only [Option.some.injEq] at h2
                subst h2
                unfold okPr valB
                rw [HKB.out, HIB.out, decide_eq_true hv]
                rfl
              · exact HR.out i p (by omega) h2)
            go_wp2
            go_roundw
            case rel => exact ⟨k + 1, by omega, by go_num, HR2, HWS.out⟩
            case measure => simp [nv]; omega
          · have HN : Hid (¬ OP) := Lib.hid (fun h => by
              have := (HD.out.1 h).1 k x HX.out
              unfold okPr valB at this
              rw [decide_eq_false hv] at this
              simp at this)
            go_wp2
            go_ret
            exact HF.out _ HN.out HB3.out.still
    · have HA : Hid (∀ (i : Nat) (p : Pr), n.prs[i]? = some p → okPr c s p = true) := Lib.hid (fun i p h => HR.out i p (by
        have := (List.getElem?_eq_some_iff.1 h).1
        omega) h)
      clear HR
      obtain ⟨-, m1, m2, m3, m4⟩ := HB1.out.node
      have q5 := HB1.out.conf.2.2.2.2.2.1
      have HF1 : Hid (¬ (n.kids.length = 0 ∧ n.piv.length = 0 ∧ n.buf.length = 0 ∧ (n.prs.length : Int) ≤ c.leaf) → ¬ OP) := Lib.hid (fun h h' => h ⟨(HD.out.1 h').2.1, (HD.out.1 h').2.2.1, (HD.out.1 h').2.2.2.1, (HD.out.1 h').2.2.2.2.1⟩)
      by_cases g1 : n.kids.length = 0
      case neg =>
        go_wp2
        go_ret
        exact HF.out _ (HF1.out (fun h => g1 h.1)) HB1.out.still
      by_cases g2 : n.piv.length = 0
      case neg =>
        go_wp2
        go_ret
        exact HF.out _ (HF1.out (fun h => g2 h.2.1)) HB1.out.still
      by_cases g3 : n.buf.length = 0
      case neg =>
        go_wp2
        go_ret
        exact HF.out _ (HF1.out (fun h => g3 h.2.2.1)) HB1.out.still
      by_cases g4 : (n.prs.length : Int) ≤ c.leaf
      case neg =>
        go_wp2
        go_ret
        exact HF.out _ (HF1.out (fun h => by have := h.2.2.2; omega)) HB1.out.still
      have HG : Hid (Rises Pr.k n.prs → OP) := Lib.hid (fun h => HD.out.2 ⟨HA.out, g1, g2, g3, g4, h⟩)
      go_wp2_with fail
      refine (right11 HB1.out.s4).mono ?_
      rintro e w2 ⟨r, rfl, hr, hs⟩
      have HS := Lib.hid (HB1.out.still.trans hs)
      cases r with
      | true =>
        have hop := HG.out (hr.out.1 rfl)
        go_wp2
        go_ret
        exact HT.out _ hop HS.out
      | false =>
        have hop : ¬ OP := fun h => by
          have := hr.out.2 (HD.out.1 h).2.2.2.2.2
          simp at this
        go_wp2
        go_ret
        exact HF.out _ hop HS.out
end Go.Proofs.Ytekoibglogoaaaa
