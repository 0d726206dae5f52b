/- Laws on a row of structures of the call's own: what is laid over it. -/
import Derived.Test.YtekoibglogoaaaaDf
import Derived.Laws.CopyOwn
import Derived.Lib.AppendZerosOnto
namespace Go.Proofs.Ytekoibglogoaaaa
open Go Go.RowKit Go.Shelf
set_option linter.unusedVariables false
set_option linter.unusedSimpArgs false

/-- A block that holds these cells. -/
def RowAt (w : World) (g : Nat) (ty : TypeId) (cur : List Value) : Prop := w.heap[g]? = some (.cells cur.toArray ty (0, 0))
theorem chg_setRow (w : World) (g : Nat) (cs : Array Value) : Chg (fun k => k = g) w (w.setRow g cs) := ⟨rfl, rfl, rfl, by simp [World.setRow], fun k hk hn => setRow_other w g k cs hn⟩
theorem RowAt.set {w : World} {g : Nat} {ty : TypeId} {cur : List Value} (h : RowAt w g ty cur) (cs : List Value) : RowAt (w.setRow g cs.toArray) g ty cs := setRow_heap w g _ _ ty _ h
theorem RowAt.cell {w : World} {g : Nat} {ty : TypeId} {cur : List Value} (h : RowAt w g ty cur) (j : Nat) (u : Value) (hu : cur[j]? = some u) : w.cell? ⟨g, j, none⟩ = some u := heap_cell h (by simpa using hu)
/-- Cells laid over others. -/
def over (cur : List Value) (o : Nat) (cs : List Value) : List Value := cur.take o ++ (cs ++ cur.drop (o + cs.length))
theorem over_len (cur : List Value) (o : Nat) (cs : List Value) (h : o + cs.length ≤ cur.length) : (over cur o cs).length = cur.length := by simp [over]; omega

theorem run_storeCells_row (P : Program) {w : World} {g o : Nat} {ty : TypeId} {cur cs : List Value} (h : RowAt w g ty cur) (hl : o + cs.length ≤ cur.length) (h1 : ∀ v ∈ cs, v.oneCell' = true) :
    (storeCells ⟨g, o, none⟩ cs 0).run P w = .ok () (w.setRow g (over cur o cs).toArray) := by
  have := run_storeCells_at P g o ty cs 0 cur.toArray w h (by simpa using hl) h1
  simpa [over] using this
/-- copy, of elements of any size. -/
theorem run_copy_rowN {P : Program} {w : World} (dT sT ty elem : TypeId) (g o dLen dCap : Nat) (a : Addr) (sLen sCap size : Nat) {t : TypeId} {cur cs : List Value} (i : TypeInfo)
    (hu : P.underlying dT = some (.slice elem)) (hq : P.info? elem = some i) (hi : i.size = size)
    (hg : RowAt w g t cur) (hn : cs.length = Nat.min sLen dLen * size)
    (hsrc : ∀ j v, cs[j]? = some v → w.cell? (a.add j) = some v) (hfit : o + cs.length ≤ cur.length) (h1 : ∀ v ∈ cs, v.oneCell' = true) :
    (Builtin.copy_ #[dT, sT] ty #[.slice (some ⟨g, o, none⟩) dLen dCap, .slice (some a) sLen sCap]).run P w =
      .ok (goInt (Nat.min sLen dLen)) (w.setRow g (over cur o cs).toArray) := by
  have hl := run_loadCells_list (P := P) w a cs hsrc
  have hst := run_storeCells_row P hg hfit h1
  subst hi
  rw [hn] at hl
  simp [Builtin.copy_, run_underlying hu, Builtin.lenOf, Builtin.firstCells, sizeOf, typeInfo, hq, hl, hst]
theorem wpList_copy_rowN {P : Program} {w : World} {ops : Array Oper} {rest : List Oper} {o : Oper} {a : Act} {Q : Exit → Act → World → Prop} (hgd : o.guard = none) (d s : Operand) (dT sT : TypeId)
    (ho : o.op = .call { callee := .builtin .copy, args := #[d, s], argTypes := #[dT, sT] }) (elem : TypeId) (i : TypeInfo) (size : Nat) (hu : P.underlying dT = some (.slice elem)) (hq : P.info? elem = some i) (hi : i.size = size)
    (g off dLen dCap : Nat) (ad : Addr) (sLen sCap : Nat) (hd : a.eval d = .slice (some ⟨g, off, none⟩) dLen dCap) (hs : a.eval s = .slice (some ad) sLen sCap)
    (t : TypeId) (cur cs : List Value) (hg : RowAt w g t cur) (hn : cs.length = Nat.min sLen dLen * size)
    (hsrc : ∀ j v, cs[j]? = some v → w.cell? (ad.add j) = some v) (hfit : off + cs.length ≤ cur.length) (h1 : ∀ v ∈ cs, v.oneCell' = true)
    (h : ∀ w' v', Hid (RowAt w' g t (over cur off cs)) → Chg (fun k => k = g) w w' → wpList P ops Q rest (a.put o.dst v') w') : wpList P ops Q (o :: rest) a w := by
  refine wpList_plain hgd fun K hK => ?_
  have hrun := run_copy_rowN (P := P) dT sT o.type elem g off dLen dCap ad sLen sCap size i hu hq hi hg hn hsrc hfit h1
  unfold Oper.wp
  simp [execOp, ho, resolve, invoke, builtin, hd, hs, hrun, Result.andThen]
  exact hK _ _ (h _ _ (Lib.hid (hg.set _)) (chg_setRow _ _ _))
theorem step_copy_rowN {P : Program} {ops : Array Oper} {o : Oper} {a : Act} {w : World} {K : Act → World → Prop} {Q : Exit → Act → World → Prop} {E : Prop} (hgd : o.guard = none) (d s : Operand) (dT sT : TypeId)
    (ho : o.op = .call { callee := .builtin .copy, args := #[d, s], argTypes := #[dT, sT] }) (elem : TypeId) (i : TypeInfo) (size : Nat) (hu : P.underlying dT = some (.slice elem)) (hq : P.info? elem = some i) (hi : i.size = size)
    (g off dLen dCap : Nat) (ad : Addr) (sLen sCap : Nat) (hd : a.eval d = .slice (some ⟨g, off, none⟩) dLen dCap) (hs : a.eval s = .slice (some ad) sLen sCap)
    (t : TypeId) (cur cs : List Value) (hg : RowAt w g t cur) (hn : cs.length = Nat.min sLen dLen * size)
    (hsrc : ∀ j v, cs[j]? = some v → w.cell? (ad.add j) = some v) (hfit : off + cs.length ≤ cur.length) (h1 : ∀ v ∈ cs, v.oneCell' = true)
    (h : ∀ w' v', Hid (RowAt w' g t (over cur off cs)) → Chg (fun k => k = g) w w' → K (a.put o.dst v') w') : if Region.wanted o (yielded ops a.tmps) = true then Oper.wp P o a w K Q else E := by
  have hw : Region.wanted o (yielded ops a.tmps) = true := by simp [Region.wanted, hgd]
  rw [if_pos hw]
  have hrun := run_copy_rowN (P := P) dT sT o.type elem g off dLen dCap ad sLen sCap size i hu hq hi hg hn hsrc hfit h1
  unfold Oper.wp
  simp [execOp, ho, resolve, invoke, builtin, hd, hs, hrun, Result.andThen]
  exact h _ _ (Lib.hid (hg.set _)) (chg_setRow _ _ _)
/-- append where there is room, as a step of a drawn region. -/
theorem step_append_row {P : Program} {ops : Array Oper} {o : Oper} {a : Act} {w : World} {K : Act → World → Prop} {Q : Exit → Act → World → Prop} {E : Prop} (hgd : o.guard = none) (s x : Operand) (t : TypeId)
    (ho : o.op = .call { callee := .builtin .append, args := #[s, x], argTypes := #[t, t] }) (e : TypeId) (i : TypeInfo) (size : Nat) (ht : P.underlying t = some (.slice e)) (hi : P.info? e = some i) (hsz : i.size = size)
    (g n cap : Nat) (hs : a.eval s = .slice (some ⟨g, 0, none⟩) n cap) (ad : Addr) (m c : Nat) (hx : a.eval x = .slice (some ad) m c)
    (cur cs : List Value) (hg : RowAt w g e cur) (hl : cs.length = m * size) (hsrc : ∀ j u, cs[j]? = some u → w.cell? (ad.add j) = some u) (h1 : ∀ u ∈ cs, u.oneCell' = true)
    (hroom : n + m ≤ cap) (hfit : n * size + cs.length ≤ cur.length)
    (h : ∀ w', Hid (RowAt w' g e (over cur (n * size) cs)) → Chg (fun k => k = g) w w' → K (a.put o.dst (.slice (some ⟨g, 0, none⟩) (n + m) cap)) w') : if Region.wanted o (yielded ops a.tmps) = true then Oper.wp P o a w K Q else E := by
  have hw : Region.wanted o (yielded ops a.tmps) = true := by simp [Region.wanted, hgd]
  rw [if_pos hw]
  subst hsz
  have hrun := run_append_room (P := P) w t o.type e i ht hi g n cap cur.toArray hg ad m c cs hl hsrc h1 hroom (by simpa using hfit)
  unfold Oper.wp
  simp [execOp, ho, resolve, invoke, builtin, hs, hx, hrun, Result.andThen]
  have := h _ (Lib.hid (hg.set _)) (chg_setRow _ _ _)
  unfold over at this
  exact this
/-- clear of one element. -/
theorem run_clear_one {P : Program} {w : World} (t elem ty : TypeId) (z : Value) (hu : P.underlying t = some (.slice elem)) (hz : ∀ w, (zeroValue elem).run P w = .ok z w)
    (g off c : Nat) (e : TypeId) (cur : List Value) (hg : RowAt w g e cur) (cs : List Value) (hcs : z.cells = cs.toArray) (h0 : 0 < cs.length) (h1 : ∀ u ∈ cs, u.oneCell' = true) (hfit : off + cs.length ≤ cur.length) :
    (Builtin.clear_ #[t] ty #[.slice (some ⟨g, off, none⟩) 1 c]).run P w = .ok (.tuple #[]) (w.setRow g (over cur off cs).toArray) := by
  have hst := run_storeCells_row P hg hfit h1
  have hzc : (Builtin.zeroCells z.cells 1).toList = cs := by
    rw [hcs]
    apply List.ext_getElem
    · simp [Builtin.zeroCells]
    · intro i a1 a2
      simp only [Builtin.zeroCells, Array.getElem_toList, Array.getElem_map, Array.getElem_range]
      rw [getElem!_pos _ _ (by simpa using Nat.mod_lt _ h0)]
      simp [Nat.mod_eq_of_lt a2]
  simp [Builtin.clear_, run_underlying hu, hz, hzc, hst]
/-- A row of the call's own, opened. -/
theorem own_row {w : World} {B ty sz n g cap m : Nat} {xs : List Value} (h : w.ownsRow B ty sz (.slice (some ⟨g, 0, none⟩) m cap) n xs) : m = n ∧ B ≤ g ∧ n ≤ cap ∧ cap ≤ maxLen ∧ ∃ tl, RowAt w g ty (xs ++ tl) ∧ (xs ++ tl).length = cap * sz ∧ xs.length = n * sz := by
  obtain ⟨hl, h⟩ := h
  rcases h with ⟨h, -⟩ | ⟨g', cap', cur, e, h1, h2, h3, h4, h5, h6⟩
  · simp at h
  · simp only [Value.slice.injEq, Option.some.injEq, Addr.mk.injEq, and_true] at e
    obtain ⟨rfl, rfl, rfl⟩ := e
    refine ⟨rfl, h1, h3, h4, cur.toList.drop (m * sz), ?_, ?_, hl⟩
    · unfold RowAt
      rw [← h6, List.take_append_drop, Array.toArray_toList]
      exact h2
    · rw [← h6, List.take_append_drop, Array.length_toList, h5]
theorem row_own {w : World} {B ty sz n g cap : Nat} {xs tl : List Value} (h : RowAt w g ty (xs ++ tl)) (hB : B ≤ g) (hn : n ≤ cap) (hm : cap ≤ maxLen) (hl : (xs ++ tl).length = cap * sz) (hx : xs.length = n * sz) : w.ownsRow B ty sz (.slice (some ⟨g, 0, none⟩) n cap) n xs :=
  ⟨hx, .inr ⟨g, cap, (xs ++ tl).toArray, rfl, hB, h, hn, hm, by simpa using hl, by rw [List.toList_toArray, ← hx, List.take_left]⟩⟩
theorem own_split {w : World} {B ty sz n : Nat} {v : Value} {xs : List Value} (h : w.ownsRow B ty sz v n xs) : (v = .slice none 0 0 ∧ n = 0) ∨ ∃ g cap, v = .slice (some ⟨g, 0, none⟩) n cap := by
  rcases h.2 with h | ⟨g, cap, cur, rfl, -⟩
  · exact .inl h
  · exact .inr ⟨g, cap, rfl⟩
end Go.Proofs.Ytekoibglogoaaaa
