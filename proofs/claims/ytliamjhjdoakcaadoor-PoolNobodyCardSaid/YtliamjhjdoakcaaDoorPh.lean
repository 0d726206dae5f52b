/- PoolPlays: the short ways, and the reading of a slice of acts. -/
import Derived.Test.YtliamjhjdoakcaaDoorPg
import Derived.OpenShut
import Derived.Deep.SlicePairs
import Derived.Deep.DeepHandedRow
namespace Go.Proofs.YtliamjhjdoakcaaDoor
open Go Go.RowKit Go.Shelf Go.ChangeShapes Go.WideShapes Go.ChangeAt
set_option linter.unusedVariables false

theorem l0_eq (n : Nat) (h : 1 ≤ n) : l0 n = true :: List.replicate (n - 1) false := by
  obtain ⟨m, rfl⟩ : ∃ m, n = m + 1 := ⟨n - 1, by omega⟩
  simp [l0, List.replicate_succ]
theorem l0_false (n : Nat) (h : 1 ≤ n) : (l0 n).count false = n - 1 := by rw [l0_eq n h]; simp
theorem l0_true (n : Nat) (h : 1 ≤ n) : (l0 n).count true = 1 := by rw [l0_eq n h]; simp [List.count_replicate]

set_option maxRecDepth 100000 in
theorem plays_bad (w : World) (hT : TabAt 0 Lib.deBruijn64tab w) (n : Int) (h : n < 5 ∨ 65536 < n) (A : Option Addr) (len cap0 : Nat) (ask : Int) :
    Calls Tryd.prog 6 #[.int .i64 n, .slice A len cap0, .int .u32 ask] w (TrueP w) := by
  have HT := Lib.hid hT
  clear hT
  by_cases h1 : n < 5
  · go_enter Tryd.func6, Tryd.ntmps6
    go_wp2_with fail
    refine (newp_bad n w h).mono ?_
    rintro e w1 ⟨rfl, rfl⟩
    go_wp2_with fail
    refine (awake07 _ HT.out).mono ?_
    rintro e w9 ⟨rfl, hb9⟩
    go_wp2
    go_ret
    exact ⟨rfl, hb9⟩
  · have h2 : 65536 < n := by omega
    go_enter Tryd.func6, Tryd.ntmps6
    go_wp2_with fail
    refine (newp_bad n w h).mono ?_
    rintro e w1 ⟨rfl, rfl⟩
    go_wp2_with fail
    refine (awake07 _ HT.out).mono ?_
    rintro e w9 ⟨rfl, hb9⟩
    go_wp2
    go_ret
    exact ⟨rfl, hb9⟩

set_option maxRecDepth 100000 in
theorem plays_big (w : World) (hT : TabAt 0 Lib.deBruijn64tab w) (n : Nat) (h1 : 200 < n) (h2 : n ≤ 65536) (A : Option Addr) (len cap0 : Nat) (ask : Int) :
    Calls Tryd.prog 6 #[.int .i64 n, .slice A len cap0, .int .u32 ask] w (TrueP w) := by
  have HT := Lib.hid hT
  have hpos := tab_lt hT
  clear hT
  have HF := Lib.hid (l0_false n (by omega))
  have HH := Lib.hid (l0_true n (by omega))
  go_enter Tryd.func6, Tryd.ntmps6
  go_wp2_with fail
  refine (newp_ok n w (by omega) h2).mono ?_
  rintro e w1 ⟨q, p, wb, rfl, hr, hq, hp, hwb, hB⟩
  have HU := Lib.hid (show PoolUp w.heap.size w w1 q p wb (l0 n) from ⟨hr, hq, hp, hwb, hB.size, hB⟩)
  clear hr hq hp hwb hB
  go_wp2_with fail
  refine (free_pool HU.out.pool).mono ?_
  rintro e w2 ⟨rfl, hs2⟩
  rw [HF.out]
  have HU2 := Lib.hid (HU.out.still hs2)
  clear hs2 HU
  have hne : (((n - 1 : Nat) : Int) == (n : Int) - 1) = true := by rw [beq_iff_eq]; omega
  go_wp2_with fail
  refine (held_pool HU2.out.pool).mono ?_
  rintro e w3 ⟨rfl, rfl⟩
  rw [HH.out]
  go_wp2_with fail
  refine (awake07 _ (HU2.out.tab HT.out hpos)).mono ?_
  rintro e w9 ⟨rfl, hb9⟩
  go_wp2
  go_ret
  exact ⟨rfl, HU2.out.below.trans (hb9.mono HU2.out.hB)⟩

theorem plays_all (w : World) (hT : TabAt 0 Lib.deBruijn64tab w) (n : Int) (A : Option Addr) (len cap0 : Nat) (hlen : len ≤ 9223372036854775807) (kd ka ki : Nat → Int) (hki : ∀ k, 0 ≤ ki k ∧ ki k ≤ 4294967295) (hA : Acts3 w w.heap.size A len kd ka ki)
    (ask : Int) (ha0 : 0 ≤ ask) (ha1 : ask ≤ 4294967295) : Calls Tryd.prog 6 #[.int .i64 n, .slice A len cap0, .int .u32 ask] w (TrueP w) := by
  by_cases h : n < 5 ∨ 65536 < n
  · exact plays_bad w hT n h A len cap0 ask
  · obtain ⟨k, rfl⟩ := Int.eq_ofNat_of_zero_le (show 0 ≤ n by omega)
    by_cases hb : 200 < k
    · exact plays_big w hT k hb (by omega) A len cap0 ask
    · exact plays_loop w hT k (by omega) (by omega) A len cap0 hlen kd ka ki hki hA ask ha0 ha1

/-- The acts, out of the reading of a slice of them. -/
theorem acts3_of {H : Type} {enc : TypeId × Value → H} {W : World} {v : Value} {d : DataW H} {ps : List MemPlace} (hpos : 0 < W.heap.size) {base : Nat} (hval : Value.okWide Tryd.prog W .any base 48 v) (h : DataW.Trod enc Tryd.prog W 0 (fun _ => true) true 48 v d ps) :
    ∃ A len cap kd ka ki, v = .slice A len cap ∧ len ≤ 9223372036854775807 ∧ (∀ k, 0 ≤ ki k ∧ ki k ≤ 4294967295) ∧ Acts3 W W.heap.size A len kd ka ki := by
  obtain ⟨A, len, cap, rfl⟩ := okWide_slice Tryd.underlying48 hval
  obtain ⟨fuel, hf⟩ := h
  rcases Go.Deep.open_slice Tryd.underlying48 hf with ⟨hc, _⟩ | ⟨a, len', cap', m, n, D, Pl, hc, _, hl, hm, hmm, _, hx⟩
  · simp only [Value.cells, List.cons.injEq, Value.slice.injEq] at hc
    obtain ⟨⟨rfl, rfl, rfl⟩, _⟩ := hc
    exact ⟨none, 0, 0, fun _ => 0, fun _ => 0, fun _ => 0, rfl, by omega, fun _ => ⟨Int.le_refl 0, (by decide : (0 : Int) ≤ 4294967295)⟩, 0, 0, fun h => absurd h (by omega), hpos, fun k hk => absurd hk (by omega)⟩
  · simp only [Value.cells, List.cons.injEq, Value.slice.injEq] at hc
    obtain ⟨⟨rfl, rfl, rfl⟩, _⟩ := hc
    simp only [if_true] at hmm
    have each : ∀ i, i < m → ∃ q : Int × Int × Int, W.cell? (a.add (i * 3)) = some (.int .i64 q.1) ∧ W.cell? (a.add (i * 3 + 1)) = some (.int .i64 q.2.1) ∧ W.cell? (a.add (i * 3 + 2)) = some (.int .u32 q.2.2) ∧ 0 ≤ q.2.2 ∧ q.2.2 ≤ 4294967295 := by
      intro i hi
      obtain ⟨cs', h1, h2⟩ := hx i hi
      rw [show Tryd.prog.cellsOf 56 = 3 by kernel_rfl] at h1
      obtain ⟨_, hlen, hcell⟩ := World.cells?_some h1
      obtain ⟨xs, k, hk, hxy, _, hxl, hg⟩ := DataW.trod_struct Tryd.underlying56 h2
      match xs, hxl, cs', hlen with
      | [y0, y1, y2], _, [v0, v1, v2], _ =>
        have g0 := hg 0 _ rfl
        have g1 := hg 1 _ rfl
        have g2 := hg 2 _ rfl
        have c3 : Tryd.prog.cellsOf 3 = 1 := by kernel_rfl
        have c52 : Tryd.prog.cellsOf 52 = 1 := by kernel_rfl
        simp [c3, c52] at g0 g1 g2
        obtain ⟨x0, e0, _⟩ := DataW.trod_int Tryd.underlying3 g0
        obtain ⟨x1, e1, _⟩ := DataW.trod_int Tryd.underlying3 g1
        obtain ⟨x2, e2, _, hw2⟩ := DataW.trod_int Tryd.underlying52 g2
        simp only [List.cons.injEq, and_true] at e0 e1 e2
        subst e0 e1 e2
        have k0 := hcell 0 (by omega)
        have k1 := hcell 1 (by omega)
        have k2 := hcell 2 (by omega)
        rw [Go.Deep.add_add] at k0 k1 k2
        exact ⟨(x0, x1, x2), by simpa using k0, by simpa using k1, by simpa using k2, bounds_u32 hw2⟩
    obtain ⟨q, hq⟩ := Go.Deep.choose_lt each
    refine ⟨some a, len, cap, fun k => (q k).1, fun k => (q k).2.1, fun k => if k < len then (q k).2.2 else 0, rfl, by unfold maxLen at hm; omega, fun k => ?_, ?_⟩
    · by_cases hk : k < len
      · simp only [hk, if_true]; exact (hq k (by omega)).2.2.2
      · simp [hk]
    by_cases h0 : len = 0
    · exact ⟨0, 0, fun h => absurd h (by omega), hpos, fun k hk => absurd hk (by omega)⟩
    · obtain ⟨b, off, spot⟩ := a
      have c0 := (hq 0 (by omega)).1
      have hspot : spot = none := by simpa [Addr.add] using World.cell?_spot c0
      subst hspot
      have hadd : ∀ j, (⟨b, off, none⟩ : Addr).add j = ⟨b, off + j, none⟩ := fun j => by unfold Addr.add; split <;> simp_all
      refine ⟨b, off, fun _ => rfl, ?_, fun k hk => ?_⟩
      · have := World.block_lt_of_cell? W _ c0
        simpa [Addr.add] using this
      · obtain ⟨h1, h2, h3, _⟩ := hq k (by omega)
        rw [hadd] at h1 h2 h3
        simp only [hk, if_true]
        exact ⟨h1, by rw [← h2]; rfl, by rw [← h3]; rfl⟩
end Go.Proofs.YtliamjhjdoakcaaDoor
