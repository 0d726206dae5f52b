/- The messages of a span; joining two lists of messages. -/
import Derived.Test.YtekoibglogoaaaaDc
import Derived.Test.YtekoibglogoaaaaCm
import Derived.Lib.AppendZeros
namespace Go.Proofs.Ytekoibglogoaaaa
open Go Go.RowKit Go.Shelf
set_option linter.unusedVariables false
set_option linter.unusedSimpArgs false

/-- From where, and to where, the messages of a span stand. -/
def partA (s : Sp) (xs : List Msg) : Nat := if emptySp s then 0 else posN Msg.k xs s.lo
def partB (s : Sp) (xs : List Msg) : Nat := if emptySp s then 0 else if s.top then xs.length else posN Msg.k xs s.hi
theorem posN_le {α : Type} (f : α → K) (xs : List α) (k : K) : posN f xs k ≤ xs.length := List.countP_le_length
theorem partB_le (s : Sp) (xs : List Msg) : partB s xs ≤ xs.length := by
  unfold partB
  have := posN_le Msg.k xs s.hi
  split
  · omega
  · split <;> omega
theorem partA_le (s : Sp) (xs : List Msg) : partA s xs ≤ partB s xs := by
  unfold partA partB
  split
  · omega
  · rename_i he
    split
    · exact posN_le _ _ _
    · rename_i ht
      unfold posN
      apply List.countP_mono_left
      intro x _ h
      unfold emptySp at he
      simp only [Bool.and_eq_true, Bool.not_eq_true', not_and] at he ht
      have h1 : ke s.hi s.lo = false := by
        cases e : ke s.hi s.lo with
        | false => rfl
        | true => exact absurd e (he (by simpa using ht))
      have h2 : kt s.lo s.hi = true := by unfold ke at h1; simpa using h1
      exact kt_trans h h2
def PartP (s : Sp) (xs : List Msg) (w : World) (e : Ending) (w' : World) : Prop := e = .returned (.tuple #[.int .i64 (partA s xs : Nat), .int .i64 (partB s xs : Nat)]) ∧ Still w w'
set_option maxRecDepth 100000 in
theorem part43 (s : Sp) {w : World} {v : Value} {xs : List Msg} (h : Sl encM 3 w v xs) (hr : Rises Msg.k xs) (hn : xs.length ≤ 1000000) : Calls Try.prog 43 #[v, s.v] w (PartP s xs w) := by
  have HE := Lib.hid (lempty s)
  have HC := Lib.hid (Cells3.new w s)
  have HW := Lib.hid (Chg.alloc (S := fun _ => False) w (.cells #[.string s.lo.1, .string s.hi.1, .bool s.top] 37))
  have HA : Hid (partA s xs = if emptySp s then 0 else posN Msg.k xs s.lo) := Lib.hid rfl
  have HB : Hid (partB s xs = if emptySp s then 0 else if s.top then xs.length else posN Msg.k xs s.hi) := Lib.hid rfl
  have HS : Hid (∀ w' key, Still w w' → Calls Try.prog 57 #[v, .string key.1, .func (.func 58) #[] #[]] w' (BsfP Msg.k xs key w')) := Lib.hid (fun w' key hs => bsf57 (h.still hs) hr hn key)
  obtain ⟨A, c, rfl, qc1, qc2⟩ := h.form
  clear h
  unfold Sp.v PartP at *
  generalize partA s xs = pa at *
  generalize partB s xs = pb at *
  generalize hes : emptySp s = es at *
  obtain ⟨lo, hi, top⟩ := s
  simp only at *
  clear hes
  go_enter Try.func43, Try.ntmps43
  obtain ⟨p0, p1, p2⟩ := HC.out
  go_wp2_with fail
  refine (HE.out _).mono ?_
  rintro e w1 ⟨rfl, hs⟩
  have HC1 := Lib.hid (HC.out.still hs)
  have HW1 := Lib.hid (HW.out.trans hs)
  clear hs p0 p1 p2 HC HW
  cases es with
  | true =>
    have HA2 : Hid (pa = 0) := Lib.hid (by rw [HA.out]; rfl)
    have HB2 : Hid (pb = 0) := Lib.hid (by rw [HB.out]; rfl)
    clear HA HB HE
    go_wp2
    refine bodyPost_ret (v := .tuple #[.int .i64 0, .int .i64 0]) (by simp [results, Try.results43, go_sem, *]) rfl ?_
    exact ⟨by rw [HA2.out, HB2.out]; rfl, HW1.out⟩
  | false =>
    obtain ⟨p0, p1, p2⟩ := HC1.out
    go_wp2_with fail
    refine (HS.out _ lo HW1.out).mono ?_
    rintro e w2 ⟨rfl, hs⟩
    have HA2 : Hid (pa = posN Msg.k xs lo) := Lib.hid (by rw [HA.out]; rfl)
    have HC2 := Lib.hid (HC1.out.still hs)
    have HW2 := Lib.hid (HW1.out.trans hs)
    clear hs p0 p1 p2 HA HE HC1
    cases top with
    | true =>
      have HB2 : Hid (pb = xs.length) := Lib.hid (by rw [HB.out]; rfl)
      clear HB
      obtain ⟨p0, p1, p2⟩ := HC2.out
      generalize posN Msg.k xs lo = po at *
      generalize isAt Msg.k xs po lo = ia at *
      go_wp2
      refine bodyPost_ret (v := .tuple #[.int .i64 po, .int .i64 xs.length]) (by simp [results, Try.results43, go_sem, *]) rfl ?_
      exact ⟨by rw [HA2.out, HB2.out], HW2.out⟩
    | false =>
      have HB2 : Hid (pb = posN Msg.k xs hi) := Lib.hid (by rw [HB.out]; rfl)
      clear HB
      obtain ⟨p0, p1, p2⟩ := HC2.out
      generalize posN Msg.k xs lo = po at *
      generalize isAt Msg.k xs po lo = ia at *
      go_wp2_with fail
      refine (HS.out _ hi HW2.out).mono ?_
      rintro e w3 ⟨rfl, hs⟩
      have HW3 := Lib.hid (HW2.out.trans hs)
      clear hs p0 p1 p2 HC2
      generalize posN Msg.k xs hi = po2 at *
      generalize isAt Msg.k xs po2 hi = ia2 at *
      go_wp2
      refine bodyPost_ret (v := .tuple #[.int .i64 po, .int .i64 po2]) (by simp [results, Try.results43, go_sem, *]) rfl ?_
      exact ⟨by rw [HA2.out, HB2.out], HW3.out⟩

/-- A row with room for so many messages. -/
def GrowP (w : World) (e : Ending) (w' : World) : Prop := ∃ v', e = .returned v' ∧ w'.ownsRow w.heap.size 45 3 v' 0 [] ∧ Still w w'
set_option maxRecDepth 100000 in
theorem grow60 (n : Nat) (hn : n ≤ 3000000) (w : World) : Calls Try.prog 60 #[.slice none 0 0, .int .i64 n] w (GrowP w) := by
  obtain ⟨i0, hi, hz0, hz1, hz2⟩ := info45_
  by_cases h0 : 0 < n
  · have hr := fun ty => Lib.run_append_nil_zeros (P := Try.prog) w 26 3 ty 45 i0 (.agg #[.string ⟨#[]⟩, .bool false, .string ⟨#[]⟩]) .i64 .i64 under26_ (by rfl) hi hz0 n h0 (by rw [hz1]; decide) (by omega) (by rw [hz2]; omega)
    have hg1 := grownCap_ge w n 0 45
    have hg2 := grownCap_le_maxLen w n 0 45 (by unfold maxLen; omega)
    have HG := Lib.hid hg2
    have hg3 : grownCap w n 0 45 ≤ 9223372036854775807 := by unfold maxLen at hg2; omega
    clear hg2
    generalize grownCap w n 0 45 = cap at *
    have HR := Lib.hid hr
    clear hr hi
    go_enter Try.func60, Try.ntmps60
    go_wp2_with (at_builtin; refine Lib.wpList_append_run _ rfl _ _ _ _ rfl _ _ rfl rfl _ _ (HR.out _) ?_)
    go_ret
    refine ⟨_, rfl, ⟨by simp, .inr ⟨w.heap.size, cap, _, rfl, Nat.le_refl _, heap_alloc_new w _, Nat.zero_le _, HG.out, ?_, by simp⟩⟩, ?_⟩
    · rw [Array.size_append, size_zeroCells, size_zeroCells, ← Nat.add_mul, show n + (cap - n) = cap by omega]
      rfl
    · exact (Chg.alloc w _).trans (Chg.drew _)
  · obtain rfl : n = 0 := by omega
    clear hi
    go_enter Try.func60, Try.ntmps60
    go_wp2
    go_ret
    exact ⟨_, rfl, World.ownsRow_nil _ _ _ _, Chg.refl _ _⟩

/-- Two lists of messages, one behind the other. -/
def ConcatP (zs : List Msg) (w : World) (e : Ending) (w' : World) : Prop := ∃ v', e = .returned v' ∧ SlF w.heap.size encM 3 w' v' zs ∧ Still w w'
theorem own_still {w w' : World} {B ty sz n : Nat} {v : Value} {xs : List Value} (h : w.ownsRow B ty sz v n xs) (hs : Still w w') : w'.ownsRow B ty sz v n xs := hs.own h (fun _ _ => id)
theorem still_grown {w w1 w2 : World} {B ty sz n : Nat} {v : Value} {xs : List Value} (h : Still w w1) (ho : w1.ownsRow B ty sz v n xs) (hB : w.heap.size ≤ B) (hg : w1.grownBy w2 v.ownBlock) : Still w w2 :=
  h.grown hg (fun k hk => .inr (Nat.le_trans hB (ho.lt k hk).1))
/-- append of any slice onto a row of the call's own. -/
theorem wpList_append_any {α : Type} {enc : α → List Value} {P : Program} {w : World} {ops : Array Oper} {rest : List Oper} {o : Oper} {a : Act} {Q : Exit → Act → World → Prop} (hgd : o.guard = none) (s x : Operand) (t : TypeId)
    (ho : o.op = .call { callee := .builtin .append, args := #[s, x], argTypes := #[t, t] })
    (base : Nat) (e : TypeId) (i : TypeInfo) (z : Value) (size bytes : Nat) (ht : P.underlying t = some (.slice e)) (hi : P.info? e = some i) (hz : i.zero = some z)
    (hsize : i.size = size) (hby : i.bytes = bytes) (hzs : z.cells.size = size) (hsz : 0 < size) (he : ∀ x, (enc x).length = size)
    (v : Value) (n : Nat) (xs : List Value) (hs : a.eval s = v) (hown : w.ownsRow base e size v n xs)
    (A : Option Addr) (m c : Nat) (ys : List α) (hx : a.eval x = .slice A m c) (hy : Sl enc size w (.slice A m c) ys) (h1 : ∀ u ∈ ys.flatMap enc, u.oneCell' = true)
    (h63 : n + ys.length ≤ maxLen) (hbytes : (n + ys.length) * bytes ≤ 140737488355328) (hbase : base ≤ w.heap.size)
    (h : ∀ v' w', w'.ownsRow base e size v' (n + ys.length) (xs ++ ys.flatMap enc) → w.grownBy w' v.ownBlock → wpList P ops Q rest (a.put o.dst v') w') : wpList P ops Q (o :: rest) a w := by
  have hm : m = ys.length := by
    obtain ⟨_, _, e, -⟩ := hy
    simp only [Value.slice.injEq] at e
    exact e.2.1
  subst hm
  cases A with
  | some ad =>
    refine wpList_append_own w hgd s x t ho base e i z size bytes ht hi hz hsize hby hzs hsz v n xs hs hown ad ys.length c (ys.flatMap enc) hx (flat_len he ys) (hy.flat he hsz) h1 h63 hbytes hbase ?_
    intro v' w' a1 a2 a3
    exact h v' w' a1 a2
  | none =>
    have e0 : ys.length = 0 := by
      obtain ⟨A, cap, e, h1, h2, h3⟩ := hy
      simp only [Value.slice.injEq] at e
      obtain ⟨rfl, -, -⟩ := e
      rcases Nat.eq_zero_or_pos ys.length with h0 | h0
      · exact h0
      · obtain ⟨b, off, e, -⟩ := h3 h0
        simp at e
    obtain rfl := List.eq_nil_of_length_eq_zero e0
    refine wpList_plain hgd fun K hK => ?_
    have hrun : (Builtin.append_ #[t, t] o.type #[v, .slice none 0 c]).run P w = .ok v w := by
      rcases hown.2 with ⟨rfl, rfl⟩ | ⟨g, cap, cur, rfl, _, _, hnc, _⟩
      · simp [Builtin.append_, run_underlying ht, sizeOf, typeInfo, hi, Builtin.lenOf, Builtin.firstCells]
      · simp [Builtin.append_, run_underlying ht, sizeOf, typeInfo, hi, Builtin.lenOf, Builtin.firstCells, hnc, storeCells]
    unfold Oper.wp
    simp only [List.length_nil] at hx
    simp [execOp, ho, resolve, invoke, builtin, hs, hx, hrun, Result.andThen]
    exact hK _ _ (h v w (by simpa using hown) ⟨rfl, rfl, rfl, Nat.le_refl _, fun _ _ _ => rfl⟩)
set_option maxRecDepth 100000 in
theorem concat44 {w : World} {b : Nat} {v1 v2 : Value} {xs ys : List Msg} (hb1 : w.cell? ⟨b, 0, none⟩ = some v1) (hb2 : w.cell? ⟨b, 1, none⟩ = some v2) (h1 : Sl encM 3 w v1 xs) (h2 : Sl encM 3 w v2 ys) (n1 : xs.length ≤ 1000000) (n2 : ys.length ≤ 1000000) :
    Calls Try.prog 44 #[.slice (some ⟨b, 0, none⟩) 2 2] w (ConcatP (xs ++ ys) w) := by
  obtain ⟨A1, c1, rfl, qa1, qb1⟩ := h1.form
  obtain ⟨A2, c2, rfl, qa2, qb2⟩ := h2.form
  have H1 := Lib.hid h1
  have H2 := Lib.hid h2
  have HB := Lib.hid (show w.cell? ⟨b, 0, none⟩ = some (.slice A1 xs.length c1) ∧ w.cell? ⟨b, 1, none⟩ = some (.slice A2 ys.length c2) from ⟨hb1, hb2⟩)
  clear h1 h2
  have hNN : ∃ N, N = xs.length + ys.length := ⟨_, rfl⟩
  obtain ⟨N, hN⟩ := hNN
  have hNi : (xs.length : Int) + (ys.length : Int) = (N : Int) := by omega
  have HN := Lib.hid hN
  have hNb : N ≤ 2000000 := by omega
  clear hN
  go_enter Try.func44, Try.ntmps44
  go_wp2_with fail
  go_loopw [3, 11] (fun s i wr => ((i = .int .i64 0 ∧ s = .int .i64 0) ∨ (i = .int .i64 1 ∧ s = .int .i64 (xs.length : Nat)) ∨ (i = .int .i64 2 ∧ s = .int .i64 (N : Nat))) ∧ w = wr) (fun _ i _ => 2 - nv i)
  case atStart => exact ⟨.inl ⟨rfl, rfl⟩, rfl⟩
  case round =>
    obtain ⟨(⟨rfl, rfl⟩ | ⟨rfl, rfl⟩ | ⟨rfl, rfl⟩), rfl⟩ := hrel
    · go_wp2
      go_roundw
      case rel => exact ⟨.inr (.inl ⟨rfl, by go_num⟩), by trivial⟩
      case measure => simp [nv]
    · go_wp2
      go_roundw
      case rel => exact ⟨.inr (.inr ⟨rfl, by go_num⟩), by trivial⟩
      case measure => simp [nv]
    · go_wp2_with fail
      refine (grow60 N (by omega) _).mono ?_
      rintro e w1 ⟨v6, rfl, ho, hs⟩
      have HS := Lib.hid hs
      have HO := Lib.hid ho
      clear ho hs hb1 hb2
      obtain ⟨i0, hi, hz0, hz1, hz2⟩ := info45_
      have HI := Lib.hid hi
      clear hi
      go_wp2_with fail
      go_loopw [6, 27] (fun v i wr => ((i = .int .i64 0 ∧ Hid (wr.ownsRow w.heap.size 45 3 v 0 [])) ∨ (i = .int .i64 1 ∧ Hid (wr.ownsRow w.heap.size 45 3 v xs.length (xs.flatMap encM))) ∨ (i = .int .i64 2 ∧ Hid (wr.ownsRow w.heap.size 45 3 v (xs ++ ys).length ((xs ++ ys).flatMap encM)))) ∧ Still w wr) (fun _ i _ => 2 - nv i)
      case atStart => exact ⟨.inl ⟨rfl, HO⟩, HS.out⟩
      clear HS HO
      case round =>
        obtain ⟨(⟨rfl, ho⟩ | ⟨rfl, ho⟩ | ⟨rfl, ho⟩), hs⟩ := hrel
        · have HS := Lib.hid hs
          clear hs
          have hb1 := HS.out.cell HB.out.1 id
          go_wp2_with (at_builtin; refine wpList_append_any (enc := encM) rfl _ _ 26 rfl w.heap.size 45 i0 (.agg #[.string ⟨#[]⟩, .bool false, .string ⟨#[]⟩]) 3 40 under26_ HI.out hz0 hz1 hz2 rfl (by decide) lenM _ 0 [] rfl ho.out A1 xs.length c1 xs rfl (H1.out.still HS.out) (oneM xs) (by unfold maxLen; omega) (by omega) HS.out.size ?_)
          intro v' w2 hown hg
          have HS2 := Lib.hid (still_grown HS.out ho.out (Nat.le_refl _) hg)
          have HO2 : Hid (w2.ownsRow w.heap.size 45 3 v' xs.length (xs.flatMap encM)) := Lib.hid (by simpa using hown)
          clear hown hg hb1
          go_wp2
          go_roundw
          case rel => exact ⟨.inr (.inl ⟨rfl, HO2⟩), HS2.out⟩
          case measure => simp [nv]
        · have HS := Lib.hid hs
          clear hs
          have hb2 := HS.out.cell HB.out.2 id
          go_wp2_with (at_builtin; refine wpList_append_any (enc := encM) rfl _ _ 26 rfl w.heap.size 45 i0 (.agg #[.string ⟨#[]⟩, .bool false, .string ⟨#[]⟩]) 3 40 under26_ HI.out hz0 hz1 hz2 rfl (by decide) lenM _ xs.length (xs.flatMap encM) rfl ho.out A2 ys.length c2 ys rfl (H2.out.still HS.out) (oneM ys) (by unfold maxLen; omega) (by omega) HS.out.size ?_)
          intro v' w2 hown hg
          have HS2 := Lib.hid (still_grown HS.out ho.out (Nat.le_refl _) hg)
          have HO2 : Hid (w2.ownsRow w.heap.size 45 3 v' (xs ++ ys).length ((xs ++ ys).flatMap encM)) := Lib.hid (by rw [List.length_append, List.flatMap_append]; exact hown)
          clear hown hg hb2
          go_wp2
          go_roundw
          case rel => exact ⟨.inr (.inr ⟨rfl, HO2⟩), HS2.out⟩
          case measure => simp [nv]
        · have HS := Lib.hid hs
          clear hs
          go_wp2
          go_ret
          exact ⟨_, rfl, own_slf lenM (by decide) ho.out (Nat.le_refl _), HS.out⟩
end Go.Proofs.Ytekoibglogoaaaa
