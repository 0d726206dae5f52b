/- BitsAll returns true for every input and turns nothing that was there: the row that lists the table of de Bruijn, and its card, tied to the program's text. Conditions: those of the given row alone. -/
import Derived.Test.YtliamjhjdoakcaaDoorCards
import Derived.Test.YtliamjhjdoakcaaDoorTie
import Derived.OpenShut
import Derived.Test.YtliamjhjdoakcaaDoorAa
import Derived.Test.YtliamjhjdoakcaaDoorLw
import Derived.Deep.DeepHandedRow
import Derived.Deep.SlicePairs
import Derived.Lib.LaidTab
namespace Go.Proofs.YtliamjhjdoakcaaDoor
open Go Go.ChangeShapes Go.WideShapes Go.ChangeAt Go.RowKit Go.Shelf
set_option linter.unusedVariables false

theorem own : ownKnob Tryd.prog.godebug = none := by kernel_rfl
theorem laidOut' : laidOutB Tryd.prog = true := by kernel_rfl
theorem gTab : Tryd.prog.globalNamed "math/bits.deBruijn64tab" = some 0 := by kernel_rfl
theorem gTabType : (Tryd.prog.globals[0]?).map (·.type) = some 84 := by kernel_rfl
theorem cells84 : Tryd.prog.cellsOf 84 = 64 := by kernel_rfl
theorem cells5 : Tryd.prog.cellsOf 5 = 1 := by kernel_rfl

theorem table {W : World} (h : laidMetH Tryd.prog Rows.bitsAllRow.laid W) : Lib.TabIs Tryd.prog W "math/bits.deBruijn64tab" .u8 (Lib.deBruijn64tab.map fun x : Nat => (x : Int)) :=
  Lib.tabIs_of_head (rest := []) gTab gTabType Tryd.underlying84 Tryd.underlying5 cells5 cells84 h
theorem tabAt_of {W : World} (h : Lib.TabIs Tryd.prog W "math/bits.deBruijn64tab" .u8 (Lib.deBruijn64tab.map fun x : Nat => (x : Int))) : TabAt 0 Lib.deBruijn64tab W := by
  intro j hj
  have h1 := h.cell gTab j (by simpa using hj)
  rw [h1]
  simp [List.getD_eq_getElem?_getD, List.getElem?_eq_getElem hj]

theorem all_bad (w : World) (hT : TabAt 0 Lib.deBruijn64tab w) (n : Int) (h : n < 1 ∨ 65536 < n) (A : Option Addr) (len cap0 : Nat) :
    Calls Tryd.prog 3 #[.int .i64 n, .slice A len cap0] w (TrueP w) := by
  have HT := Lib.hid hT
  clear hT
  by_cases h1 : n < 1
  · go_enter Tryd.func3, Tryd.ntmps3
    go_wp2_with (first | (go_at_call 8; refine (new_bad n w h).mono ?_; rintro e w1 ⟨rfl, rfl⟩) | (go_at_call 9; refine (awake04 _ HT.out).mono ?_; rintro e w9 ⟨rfl, hb9⟩))
    go_ret
    exact ⟨rfl, hb9⟩
  · have h2 : 65536 < n := by omega
    go_enter Tryd.func3, Tryd.ntmps3
    go_wp2_with (first | (go_at_call 8; refine (new_bad n w h).mono ?_; rintro e w1 ⟨rfl, rfl⟩) | (go_at_call 9; refine (awake04 _ HT.out).mono ?_; rintro e w9 ⟨rfl, hb9⟩))
    go_ret
    exact ⟨rfl, hb9⟩
theorem all_all (w : World) (hT : TabAt 0 Lib.deBruijn64tab w) (n : Int) (A : Option Addr) (len cap0 : Nat) (hlen : len ≤ 9223372036854775807) (xs : Nat → Int) (hxs : ∀ j, 0 ≤ xs j ∧ xs j ≤ 65535) (hA : Nums w w.heap.size A len .u16 xs) :
    Calls Tryd.prog 3 #[.int .i64 n, .slice A len cap0] w (TrueP w) := by
  by_cases h : n < 1 ∨ 65536 < n
  · exact all_bad w hT n h A len cap0
  · obtain ⟨k, rfl⟩ := Int.eq_ofNat_of_zero_le (show 0 ≤ n by omega)
    exact all_loop w hT k (by omega) (by omega) A len cap0 hlen xs hxs hA

/-- The numbers, out of the reading of a slice of them. -/
theorem nums_of {H : Type} {enc : TypeId × Value → H} {W : World} {v : Value} {d : DataW H} {ps : List MemPlace} (hpos : 0 < W.heap.size) {base : Nat} (hval : Value.okWide Tryd.prog W .any base 22 v) (h : DataW.Trod enc Tryd.prog W 0 (fun _ => true) true 22 v d ps) :
    ∃ A len cap xs, v = .slice A len cap ∧ len ≤ 9223372036854775807 ∧ (∀ j, 0 ≤ xs j ∧ xs j ≤ 65535) ∧ Nums W W.heap.size A len .u16 xs := by
  obtain ⟨A, len, cap, rfl⟩ := okWide_slice Tryd.underlying22 hval
  obtain ⟨fuel, hf⟩ := h
  rcases open_ints Tryd.underlying22 Tryd.underlying30 (by kernel_rfl) hf with ⟨hc, _⟩ | ⟨a, len', cap', zs, hc, _, hl, hm, hz, hx, hcell, hwz⟩
  · simp only [Value.cells, List.cons.injEq, Value.slice.injEq] at hc
    obtain ⟨⟨rfl, rfl, rfl⟩, _⟩ := hc
    exact ⟨none, 0, 0, fun _ => 0, rfl, by omega, fun _ => ⟨Int.le_refl 0, (by decide : (0 : Int) ≤ 65535)⟩, 0, 0, fun h => absurd h (by omega), hpos, fun k hk => absurd hk (by omega)⟩
  · simp only [Value.cells, List.cons.injEq, Value.slice.injEq] at hc
    obtain ⟨⟨rfl, rfl, rfl⟩, _⟩ := hc
    refine ⟨some a, len, cap, fun k => zs.getD k 0, rfl, by unfold maxLen at hm; omega, fun j => ?_, ?_⟩
    · have := range_u16 hwz j
      simpa [List.getD_eq_getElem?_getD] using this
    by_cases h0 : len = 0
    · exact ⟨0, 0, fun h => absurd h (by omega), hpos, fun k hk => absurd hk (by omega)⟩
    · obtain ⟨b, off, spot⟩ := a
      simp only [if_true] at hz
      have c0 := hcell 0 (by omega)
      have hspot : spot = none := by simpa [Addr.add] using World.cell?_spot c0
      subst hspot
      have hadd : ∀ j, (⟨b, off, none⟩ : Addr).add j = ⟨b, off + j, none⟩ := fun j => by unfold Addr.add; split <;> simp_all
      refine ⟨b, off, fun _ => rfl, ?_, fun k hk => ?_⟩
      · have := World.block_lt_of_cell? W _ c0
        simpa [Addr.add] using this
      · rw [← hadd]
        exact hcell k (by omega)

theorem contract (H : Type) (enc : TypeId × Value → H) (W : World) (base : Nat) (args : Array Value) (ds gs : List (DataW H)) (before : List MemPlace)
    (hval : ∀ (j : Nat) t v, Tryd.f3.params[j]? = some t → args[j]? = some v → Value.okWide Tryd.prog W .any base t v)
    (hW : DataW.Whole enc Tryd.prog Tryd.f3.params.toList Rows.bitsAllSpec.vars false W args.toList ds gs before) (hL : laidMetH Tryd.prog Rows.bitsAllRow.laid W) :
    Calls Tryd.prog 3 args W fun e W' => ∃ v, e = .returned v ∧ Rows.bitsAllSpec.post enc Tryd.prog Tryd.f3 false true false false W args v W' := by
  have hW' := hW
  obtain ⟨p, q, hA0, hV, rfl, hfz, hnd⟩ := hW
  have hA : DataW.TrodAll enc Tryd.prog W 0 (fun _ => true) true Tryd.f3.params.toList args.toList ds p := hA0
  rw [Tryd.params3] at hA hval
  obtain ⟨v0, v1, d0, d1, p0, p1, rfl, rfl, rfl, h0, h1⟩ := trodAll_two hA
  have hT := tabAt_of (table hL)
  obtain ⟨n, rfl, rfl, rfl, wn⟩ := open_int Tryd.underlying3 (hval 0 3 v0 rfl rfl) h0
  obtain ⟨A, len, cap, xs, rfl, hlen, hxs, hnums⟩ := nums_of (tab_lt hT) (hval 1 22 v1 rfl rfl) h1
  refine (all_all W hT n A len cap hlen xs hxs hnums).mono fun e W' ⟨he, hg⟩ => ?_
  subst he
  refine ⟨_, rfl, law_post laidOut' (fun t ht => ?_) rfl hW' ?_ rfl Tryd.underlying4 hg⟩
  · rw [Tryd.params3] at ht
    simp only [List.mem_cons, List.not_mem_nil, or_false] at ht
    rcases ht with rfl | rfl <;> exact ⟨by kernel_rfl, of_decide_eq_true (by kernel_rfl)⟩
  · intro ds' hl
    rw [Tryd.params3] at hl
    match ds', hl with
    | [x0, x1], _ => rfl

/-- A world for the witness: the settled one, the table (block 0) holding what its initialiser lays. -/
noncomputable def laidWorld (os : Os) : World :=
  { World.holding Tryd.prog os ⟨#[], #[], []⟩ with heap := (World.holding Tryd.prog os ⟨#[], #[], []⟩).heap.modify 0 fun
      | .cells _ t frozen => .cells (Lib.deBruijn64tab.map fun x : Nat => Value.int .u8 (x : Int)).toArray t frozen
      | o => o }
theorem laid_met (os : Os) : laidMet Tryd.prog Rows.bitsAllRow.laid ((laidWorld os).forCall (fun _ _ => 0) ⟨#[], #[.int .i64 0, .slice none 0 0], []⟩).memory :=
  laidMet_of_run' 8 (by kernel_rfl) (by kernel_rfl)
theorem reads (os : Os) {H : Type} (enc : TypeId × Value → H) : ∃ places, DataW.whole enc Tryd.prog ((laidWorld os).forCall (fun _ _ => 0) ⟨#[], #[.int .i64 0, .slice none 0 0], []⟩).memory Tryd.f3.params.toList Rows.bitsAllSpec.vars false (#[.int .i64 0, .slice none 0 0] : Array Value).toList 8 = some ([.lit (.int .i64 0), .nil], [], places) :=
  ⟨[], by kernel_rfl⟩

set_option maxRecDepth 100000 in
theorem lifted (os : Os) (started : os.Started) (H : Type) (enc : TypeId × Value → H) (F : Stop.Interp) :
    ReturnsInHanded {} Tryd.checked os 3 .any ((OpenSpec.ofChange Rows.bitsAllSpec).preRow enc Tryd.prog Tryd.f3 Rows.bitsAllRow.domain false Rows.bitsAllRow.laid) (((OpenSpec.ofChange Rows.bitsAllSpec).at F).post enc Tryd.prog Tryd.f3 false true false false) := by
  obtain ⟨places, hx⟩ := reads os enc
  refine returnsInHanded_of_row (C := Tryd.checked) (s := OpenSpec.ofChange Rows.bitsAllSpec) own started (by kernel_rfl) Tryd.func3
    (witness_row_at (enc := enc) (C := Tryd.checked) false (laidWorld os) #[.int .i64 0, .slice none 0 0] rfl (by kernel_rfl) (by kernel_rfl) (by kernel_rfl)
      (OpenSpec.preRow_of_cond 8 hx (by kernel_rfl) (fun k hk => by cases hk) (by kernel_rfl) (laid_met os))) ?_
  intro W base args ds gs before hval hW _ _ _ hL _ _
  exact contract H enc W base args ds gs before hval hW hL

theorem said : Rows.BitsAllSaid :=
  OpenClaim.holds_of_cond 3 Tryd.f3 rfl rfl rfl rfl rfl rfl rfl ⟨rfl, rfl, rfl, rfl, rfl⟩ rfl rfl rfl rfl rfl (by kernel_rfl) Tryd.func3 (by kernel_rfl)
    (of_decide_eq_true (by kernel_rfl)) (by unfold Func.isWrapper; first | (rw [if_pos (by decide +kernel)]; kernel_rfl) | (rw [if_neg (by decide +kernel)]; exact ⟨rfl, rfl⟩))
    (fun os started H enc _ F => by rw [OpenClaim.pre_eq_preRow]; exact lifted os started H enc F)

/-- No parameter wants a stand-in; the program's own looks are off: what the card asks. -/
theorem plain (f : FuncId) (fn : Func) (hf : Tryd.pinned.checked.prog.funcNamed "sluicegate/sluicegatelaw04.BitsAll" = some f) (hfn : Tryd.pinned.checked.prog.funcs[f]? = some fn) :
    false = Tryd.pinned.checked.prog.looks [] ∧ ∀ (j : Nat) t, fn.params[j]? = some t → Tryd.pinned.checked.prog.wantsStandIn t = false := by
  obtain rfl : f = 3 := Option.some.inj ((show Tryd.prog.funcNamed "sluicegate/sluicegatelaw04.BitsAll" = some 3 by kernel_rfl).symm.trans hf) |>.symm
  obtain rfl : fn = Tryd.f3 := (Option.some.inj (Tryd.func3.symm.trans hfn)).symm
  refine ⟨by kernel_rfl, fun j t ht => ?_⟩
  rw [Tryd.params3] at ht
  have hm := Array.mem_of_getElem? ht
  simp only [List.mem_toArray, List.mem_cons, List.not_mem_nil, or_false] at hm
  rcases hm with rfl | rfl
  · exact (show Tryd.prog.wantsStandIn 3 = false by kernel_rfl)
  · exact (show Tryd.prog.wantsStandIn 22 = false by kernel_rfl)

theorem bitsAll_card : Rows.BitsAllCardSaid :=
  Claim7.holds_tied_plain_at .later [] _ _ _ _ said (fun _ h => by cases h) (by kernel_rfl) (fun _ h => by cases h) bitsAll_row_tie rfl ⟨rfl, rfl⟩ (by kernel_rfl) rfl plain (by kernel_rfl)
#print axioms bitsAll_card
end Go.Proofs.YtliamjhjdoakcaaDoor
