/- Settings, nodes and numbers, out of the reading of the arguments. -/
import Derived.Test.YtekoibglogoaaaaEg
import Derived.OpenShut
import Derived.Deep.SlicePairs
import Derived.Deep.DeepHandedRow
namespace Go.Proofs.Ytekoibglogoaaaa
open Go Go.RowKit Go.Shelf Go.ChangeShapes Go.WideShapes Go.ChangeAt
set_option linter.unusedVariables false
set_option linter.unusedSimpArgs false

section
variable {H : Type} {en : TypeId × Value → H} {W : World}
/-- A slice, out of its reading. -/
theorem sl_of {α : Type} [Inhabited α] {enc : α → List Value} {sz : Nat} {t e : TypeId} {fuel : Nat} {v : Value} {x : DataW H × List MemPlace} (ht : Try.prog.underlying t = some (.slice e)) (hce : Try.prog.cellsOf e = sz) (h0 : 0 < sz) (he : ∀ x, (enc x).length = sz)
    (hdec : ∀ n cs y, cs.length = sz → DataW.trod en Try.prog W 0 (fun _ => true) true n e cs = some y → ∃ a, cs = enc a) (h : DataW.trod en Try.prog W 0 (fun _ => true) true fuel t [v] = some x) : ∃ xs : List α, Sl enc sz W v xs := by
  rcases Go.Deep.open_slice ht h with ⟨hc, _⟩ | ⟨a, len, cap, m, n, D, Pl, hc, _, hl, hm, hmm, _, hx⟩
  · simp only [List.cons.injEq, and_true] at hc
    subst hc
    exact ⟨[], none, 0, rfl, Nat.le_refl _, by omega, fun h => by simp at h⟩
  · simp only [List.cons.injEq, and_true] at hc
    subst hc
    simp only [if_true] at hmm
    have each : ∀ i, i < m → ∃ q : α, ∀ j u, (enc q)[j]? = some u → W.cell? (a.add (i * sz + j)) = some u := by
      intro i hi
      obtain ⟨cs', h1, h2⟩ := hx i hi
      rw [hce] at h1
      obtain ⟨_, hlen, hcell⟩ := World.cells?_some h1
      obtain ⟨q, rfl⟩ := hdec _ _ _ hlen h2
      refine ⟨q, fun j u hu => ?_⟩
      have hj : j < sz := by rw [← hlen]; exact (List.getElem?_eq_some_iff.1 hu).1
      have := hcell j hj
      rw [Go.Deep.add_add] at this
      rw [this, hu]
    obtain ⟨q, hq⟩ := Go.Deep.choose_lt each
    have hlenq : ((List.range len).map q).length = len := by simp
    refine ⟨(List.range len).map q, some a, cap, by rw [hlenq], by rw [hlenq]; exact hl, by unfold maxLen at hm; omega, fun hp => ?_⟩
    rw [hlenq] at hp
    obtain ⟨b, off, spot⟩ := a
    have hx0 : (enc (q 0))[0]? = some ((enc (q 0))[0]'(by rw [he]; exact h0)) := List.getElem?_eq_getElem _
    have c0 := hq 0 (by omega) 0 _ hx0
    have hspot : spot = none := by simpa [Addr.add] using World.cell?_spot c0
    subst hspot
    refine ⟨b, off, rfl, ?_, fun i x hx2 j u hu => ?_⟩
    · have := World.block_lt_of_cell? W _ c0
      simpa [Addr.add] using this
    · have hi : i < len := by
        have := (List.getElem?_eq_some_iff.1 hx2).1
        simpa using this
      have hqx : q i = x := by
        rw [List.getElem?_map, List.getElem?_range hi] at hx2
        simpa using hx2
      subst hqx
      have := hq i (by omega) j u hu
      rw [Addr.add_lit] at this
      rw [Nat.add_assoc]
      exact this
theorem int_wf {k : IntKind} {n : Int} (h : (Lit.int k n).wf = true) (hk : k = .i64) : -9223372036854775808 ≤ n ∧ n ≤ 9223372036854775807 := by
  subst hk
  simpa [Lit.wf, IntKind.min, IntKind.max, IntKind.signed, IntKind.bits] using h
theorem u32_wf {n : Int} (h : (Lit.int .u32 n).wf = true) : 0 ≤ n ∧ n ≤ 4294967295 := by
  simpa [Lit.wf, IntKind.min, IntKind.max, IntKind.signed, IntKind.bits] using h
instance : Inhabited K := ⟨k0⟩
instance : Inhabited U := ⟨⟨0, by decide⟩⟩
instance : Inhabited Msg := ⟨⟨k0, false, k0⟩⟩
instance : Inhabited Pr := ⟨⟨k0, k0⟩⟩
theorem dec_u (n : Nat) (cs : List Value) (y : DataW H × List MemPlace) (hl : cs.length = 1) (h : DataW.trod en Try.prog W 0 (fun _ => true) true n 43 cs = some y) : ∃ a : U, cs = encU a := by
  obtain ⟨x, rfl, -, hw⟩ := DataW.trod_int Try.underlying43 h
  exact ⟨⟨x, u32_wf hw⟩, rfl⟩
theorem dec_s (n : Nat) (cs : List Value) (y : DataW H × List MemPlace) (hl : cs.length = 1) (h : DataW.trod en Try.prog W 0 (fun _ => true) true n 9 cs = some y) : ∃ a : K, cs = encS a := by
  obtain ⟨s, rfl, -, hw⟩ := DataW.trod_string Try.underlying9 h
  exact ⟨⟨s, hw⟩, rfl⟩
theorem dec_m (n : Nat) (cs : List Value) (y : DataW H × List MemPlace) (hl : cs.length = 3) (h : DataW.trod en Try.prog W 0 (fun _ => true) true n 45 cs = some y) : ∃ a : Msg, cs = encM a := by
  obtain ⟨xs, m, -, -, -, hxl, hg⟩ := DataW.trod_struct Try.underlying45 h
  match xs, hxl, cs, hl with
  | [y0, y1, y2], _, [v0, v1, v2], _ =>
    have g0 := hg 0 _ rfl
    have g1 := hg 1 _ rfl
    have g2 := hg 2 _ rfl
    have c9 : Try.prog.cellsOf 9 = 1 := by kernel_rfl
    have c4 : Try.prog.cellsOf 4 = 1 := by kernel_rfl
    simp [c9, c4] at g0 g1 g2
    obtain ⟨s0, e0, -, w0⟩ := DataW.trod_string Try.underlying9 g0
    obtain ⟨b, e1, -⟩ := DataW.trod_bool Try.underlying4 g1
    obtain ⟨s2, e2, -, w2⟩ := DataW.trod_string Try.underlying9 g2
    simp only [List.cons.injEq, and_true] at e0 e1 e2
    subst e0 e1 e2
    exact ⟨⟨⟨s0, w0⟩, b, ⟨s2, w2⟩⟩, rfl⟩
theorem dec_p (n : Nat) (cs : List Value) (y : DataW H × List MemPlace) (hl : cs.length = 2) (h : DataW.trod en Try.prog W 0 (fun _ => true) true n 47 cs = some y) : ∃ a : Pr, cs = encP a := by
  obtain ⟨xs, m, -, -, -, hxl, hg⟩ := DataW.trod_struct Try.underlying47 h
  match xs, hxl, cs, hl with
  | [y0, y1], _, [v0, v1], _ =>
    have g0 := hg 0 _ rfl
    have g1 := hg 1 _ rfl
    have c9 : Try.prog.cellsOf 9 = 1 := by kernel_rfl
    simp [c9] at g0 g1
    obtain ⟨s0, e0, -, w0⟩ := DataW.trod_string Try.underlying9 g0
    obtain ⟨s1, e1, -, w1⟩ := DataW.trod_string Try.underlying9 g1
    simp only [List.cons.injEq, and_true] at e0 e1
    subst e0 e1
    exact ⟨⟨⟨s0, w0⟩, ⟨s1, w1⟩⟩, rfl⟩
/-- A node, out of its reading. -/
theorem node_of {v : Value} {d : DataW H} {ps : List MemPlace} {base : Nat} (hval : Value.okWide Try.prog W .any base 29 v) (h : DataW.Trod en Try.prog W 0 (fun _ => true) true 29 v d ps) : ∃ n : Nd, NodeV W v n := by
  obtain ⟨cs, rfl, hcs⟩ := okWide_struct Try.underlying29 hval
  rw [show Try.prog.cellsOf 29 = 5 by kernel_rfl] at hcs
  obtain ⟨fuel, hf⟩ := h
  obtain ⟨xs, m, -, -, -, hxl, hg⟩ := DataW.trod_struct Try.underlying29 hf
  obtain ⟨l, rfl⟩ : ∃ l : List Value, cs = l.toArray := ⟨cs.toList, by simp⟩
  simp only [Value.cells, List.toList_toArray, List.size_toArray] at hg hcs
  match xs, hxl, l, hcs with
  | [y0, y1, y2, y3, y4], _, [v0, v1, v2, v3, v4], _ =>
    have g0 := hg 0 _ rfl
    have g1 := hg 1 _ rfl
    have g2 := hg 2 _ rfl
    have g3 := hg 3 _ rfl
    have g4 := hg 4 _ rfl
    have c3 : Try.prog.cellsOf 3 = 1 := by kernel_rfl
    have c24 : Try.prog.cellsOf 24 = 1 := by kernel_rfl
    have c25 : Try.prog.cellsOf 25 = 1 := by kernel_rfl
    have c26 : Try.prog.cellsOf 26 = 1 := by kernel_rfl
    have c27 : Try.prog.cellsOf 27 = 1 := by kernel_rfl
    simp [c3, c24, c25, c26, c27] at g0 g1 g2 g3 g4
    obtain ⟨lev, e0, -, hw⟩ := DataW.trod_int Try.underlying3 g0
    simp only [List.cons.injEq, and_true] at e0
    subst e0
    obtain ⟨x1, s1⟩ := sl_of Try.underlying24 (by kernel_rfl) (by decide) lenU dec_u g1
    obtain ⟨x2, s2⟩ := sl_of Try.underlying25 (by kernel_rfl) (by decide) lenS dec_s g2
    obtain ⟨x3, s3⟩ := sl_of Try.underlying26 (by kernel_rfl) (by decide) lenM dec_m g3
    obtain ⟨x4, s4⟩ := sl_of Try.underlying27 (by kernel_rfl) (by decide) lenP dec_p g4
    exact ⟨⟨lev, x1, x2, x3, x4⟩, v1, v2, v3, v4, rfl, s1, s2, s3, s4⟩
/-- Settings, out of their reading. -/
theorem conf_of {v : Value} {d : DataW H} {ps : List MemPlace} {base : Nat} (hval : Value.okWide Try.prog W .any base 23 v) (h : DataW.Trod en Try.prog W 0 (fun _ => true) true 23 v d ps) : ∃ c : Conf, v = .agg c.vs := by
  obtain ⟨cs, rfl, hcs⟩ := okWide_struct Try.underlying23 hval
  rw [show Try.prog.cellsOf 23 = 8 by kernel_rfl] at hcs
  obtain ⟨fuel, hf⟩ := h
  obtain ⟨xs, m, -, -, -, hxl, hg⟩ := DataW.trod_struct Try.underlying23 hf
  obtain ⟨l, rfl⟩ : ∃ l : List Value, cs = l.toArray := ⟨cs.toList, by simp⟩
  simp only [Value.cells, List.toList_toArray, List.size_toArray] at hg hcs
  match xs, hxl, l, hcs with
  | [y0, y1, y2, y3, y4, y5, y6, y7], _, [v0, v1, v2, v3, v4, v5, v6, v7], _ =>
    have g0 := hg 0 _ rfl
    have g1 := hg 1 _ rfl
    have g2 := hg 2 _ rfl
    have g3 := hg 3 _ rfl
    have g4 := hg 4 _ rfl
    have g5 := hg 5 _ rfl
    have g6 := hg 6 _ rfl
    have g7 := hg 7 _ rfl
    have c3 : Try.prog.cellsOf 3 = 1 := by kernel_rfl
    simp [c3] at g0 g1 g2 g3 g4 g5 g6 g7
    obtain ⟨a0, e0, -, -⟩ := DataW.trod_int Try.underlying3 g0
    obtain ⟨a1, e1, -, -⟩ := DataW.trod_int Try.underlying3 g1
    obtain ⟨a2, e2, -, -⟩ := DataW.trod_int Try.underlying3 g2
    obtain ⟨a3, e3, -, -⟩ := DataW.trod_int Try.underlying3 g3
    obtain ⟨a4, e4, -, -⟩ := DataW.trod_int Try.underlying3 g4
    obtain ⟨a5, e5, -, -⟩ := DataW.trod_int Try.underlying3 g5
    obtain ⟨a6, e6, -, -⟩ := DataW.trod_int Try.underlying3 g6
    obtain ⟨a7, e7, -, -⟩ := DataW.trod_int Try.underlying3 g7
    simp only [List.cons.injEq, and_true] at e0 e1 e2 e3 e4 e5 e6 e7
    subst e0 e1 e2 e3 e4 e5 e6 e7
    exact ⟨⟨a0, a1, a2, a3, a4, a5, a6, a7⟩, rfl⟩
end
end Go.Proofs.Ytekoibglogoaaaa
