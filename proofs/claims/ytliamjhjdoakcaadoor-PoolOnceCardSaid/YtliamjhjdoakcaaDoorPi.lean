/- delete on a map whose keys are whole numbers; a pool beside a map of what was given out. -/
import Derived.Test.YtliamjhjdoakcaaDoorPh
import Derived.Test.YtliamjhjdoakcaaDoorMp
namespace Go.Proofs.YtliamjhjdoakcaaDoor
open Go Go.RowKit Go.Shelf
set_option linter.unusedVariables false
set_option linter.unusedSimpArgs false

def delM : List (Int × Value) → Int → List (Int × Value)
  | [], _ => []
  | (y, v) :: r, x => if x = y then r else (y, v) :: delM r x
theorem delM_none (x : Int) : ∀ (m : List (Int × Value)) (i : Nat), findM x m i = none → delM m x = m
  | [], _, _ => rfl
  | (y, v) :: r, i, h => by
    unfold findM at h
    by_cases hxy : x = y
    · subst hxy; simp at h
    · have hb : (x == y) = false := beq_eq_false_iff_ne.2 hxy
      rw [hb] at h
      unfold delM
      rw [if_neg hxy, delM_none x r (i + 1) (by simpa using h)]
theorem findM_ge (x : Int) (v : Value) : ∀ (m : List (Int × Value)) (i j : Nat), findM x m i = some (j, v) → i ≤ j
  | [], _, _, h => by simp [findM] at h
  | (y, u) :: r, i, j, h => by
    unfold findM at h
    by_cases hxy : x = y
    · subst hxy; simp at h; omega
    · have hb : (x == y) = false := beq_eq_false_iff_ne.2 hxy
      rw [hb] at h
      have := findM_ge x v r (i + 1) j (by simpa using h)
      omega
theorem delM_some (x : Int) (v : Value) : ∀ (m : List (Int × Value)) (i j : Nat), findM x m i = some (j, v) → m.eraseIdx (j - i) = delM m x
  | [], _, _, h => by simp [findM] at h
  | (y, u) :: r, i, j, h => by
    unfold findM at h
    by_cases hxy : x = y
    · subst hxy
      simp only [beq_self_eq_true, if_true, Option.some.injEq, Prod.mk.injEq] at h
      obtain ⟨rfl, _⟩ := h
      simp [delM]
    · have hb : (x == y) = false := beq_eq_false_iff_ne.2 hxy
      rw [hb] at h
      have h' : findM x r (i + 1) = some (j, v) := by simpa using h
      have hge := findM_ge x v r (i + 1) j h'
      have ih := delM_some x v r (i + 1) j h'
      unfold delM
      rw [if_neg hxy, ← ih, show j - i = (j - (i + 1)) + 1 by omega]
      rfl
theorem delM_sub (x : Int) : ∀ (m : List (Int × Value)), List.Sublist (delM m x) m
  | [] => List.Sublist.refl _
  | (y, v) :: r => by
    unfold delM
    split
    · exact List.sublist_cons_self _ _
    · exact (delM_sub x r).cons_cons _
theorem delM_nodup {m : List (Int × Value)} (h : (m.map (·.1)).Nodup) (x : Int) : ((delM m x).map (·.1)).Nodup := ((delM_sub x m).map _).nodup h
theorem getM_delM (x y : Int) : ∀ {m : List (Int × Value)}, (m.map (·.1)).Nodup → getM (delM m x) y = if y = x then none else getM m y
  | [], _ => by simp [getM, delM]
  | (z, v) :: r, hn => by
    simp only [List.map_cons, List.nodup_cons, List.mem_map, not_exists, not_and] at hn
    have ih := @getM_delM x y r hn.2
    unfold delM
    by_cases hxz : x = z
    · subst hxz
      rw [if_pos rfl]
      by_cases hyx : y = x
      · subst hyx
        rw [if_pos rfl, getM_none_iff]
        exact fun p hp => hn.1 p hp
      · rw [if_neg hyx]
        unfold getM
        simp [List.find?_cons, beq_eq_false_iff_ne.2 hyx]
    · rw [if_neg hxz]
      unfold getM at ih ⊢
      simp only [List.find?_cons]
      by_cases hyz : y = z
      · subst hyz
        rw [if_neg (fun e => hxz e.symm)]
        simp
      · rw [beq_eq_false_iff_ne.2 hyz]
        exact ih
theorem delM_length (x : Int) : ∀ {m : List (Int × Value)}, (getM m x).isSome = true → (delM m x).length + 1 = m.length
  | [], h => by simp [getM] at h
  | (z, v) :: r, h => by
    unfold delM
    by_cases hxz : x = z
    · rw [if_pos hxz]; simp
    · rw [if_neg hxz]
      have : (getM r x).isSome = true := by
        unfold getM at h ⊢
        simpa [List.find?_cons, beq_eq_false_iff_ne.2 hxz] using h
      have ih := delM_length x this
      simp; omega

theorem eraseIdx_map' {α β : Type} (f : α → β) : ∀ (l : List α) (i : Nat), (l.eraseIdx i).map f = (l.map f).eraseIdx i
  | [], i => rfl
  | _ :: _, 0 => rfl
  | _ :: r, i + 1 => by simp [eraseIdx_map' f r i]
section
variable {P : Program}
theorem run_delete_imap {t kt et ty : TypeId} {k : IntKind} (ht : P.underlying t = some (.map kt et)) (hk : P.underlying kt = some (.int k)) {w : World} {b : Nat} {m : List (Int × Value)} (h : IMap w b k m) (x : Int) :
    ∃ w', (∀ ty, (Builtin.delete_ #[t, kt] ty #[.map (some b), .int k x]).run P w = .ok (.tuple #[]) w') ∧ IMap w' b k (delM m x) ∧ Chg (fun q => q = b) w w' := by
  obtain ⟨es, clock, h1, h2, h3⟩ := h
  cases hf : findM x m 0 with
  | none =>
    refine ⟨putObj w b (.map es clock), fun ty => ?_, ⟨_, _, putObj_heap h1 _, ?_, delM_nodup h3 x⟩, putObj_chg w b _⟩
    · simp [Builtin.delete_, run_underlying ht, run_get_map h1, run_checkKey kt k hk, run_findKey kt k hk x es.toList m h2, hf, run_set_map h1]
    · rw [delM_none x m 0 hf, h2]
  | some q =>
    obtain ⟨i, u⟩ := q
    refine ⟨putObj w b (.map (es.eraseIdxIfInBounds i) clock), fun ty => ?_, ⟨_, _, putObj_heap h1 _, ?_, delM_nodup h3 x⟩, putObj_chg w b _⟩
    · simp [Builtin.delete_, run_underlying ht, run_get_map h1, run_checkKey kt k hk, run_findKey kt k hk x es.toList m h2, hf, run_set_map h1]
    · rw [← delM_some x u m 0 i hf, Nat.sub_zero]
      rw [eraseIdx_map', ← h2, ← eraseIdx_map']
      congr 1
      simp [Array.eraseIdxIfInBounds]
      split
      · simp
      · rw [List.eraseIdx_of_length_le]; simpa using (by omega : es.size ≤ i)
end

/-! ### The plain side: what is taken, and the map. -/
def AgreeM (l : List Bool) (m : List (Int × Value)) : Prop := (∀ x : Int, 0 ≤ x → getM m x = if hasB l x then some (.bool true) else none) ∧ m.length = l.count true
theorem hasB_set (l : List Bool) (i : Nat) (hi : i < l.length) (b : Bool) (x : Int) (hx : 0 ≤ x) : hasB (l.set i b) x = if x = i then b else hasB l x := by
  obtain ⟨n, rfl⟩ := Int.eq_ofNat_of_zero_le hx
  unfold hasB
  simp only [List.length_set, Int.toNat_natCast]
  by_cases h : n = i
  · subst h
    simp [hi, List.getD_eq_getElem?_getD]
  · rw [if_neg (by omega), Bt.getD_set_ne l i n b (fun e => h e.symm)]
theorem hasB_get (l : List Bool) (i : Nat) (hi : i < l.length) : hasB l i = l.getD i false := by unfold hasB; simp [hi]
theorem AgreeM.put {l : List Bool} {m : List (Int × Value)} (h : AgreeM l m) (i : Nat) (hi : i < l.length) (hf : l.getD i false = false) : AgreeM (l.set i true) (putM m i (.bool true)) := by
  have hg : getM m i = none := by rw [h.1 i (by omega), hasB_get l i hi, hf]; rfl
  refine ⟨fun x hx => ?_, ?_⟩
  · rw [getM_putM, hasB_set l i hi true x hx]
    by_cases e : x = i
    · rw [if_pos e, if_pos e]; rfl
    · rw [if_neg e, if_neg e]; exact h.1 x hx
  · rw [putM_length, hg, count_set_true l i hi hf, h.2]; rfl
theorem AgreeM.cut {l : List Bool} {m : List (Int × Value)} (h : AgreeM l m) (hn : (m.map (·.1)).Nodup) (i : Nat) (hi : i < l.length) (hf : l.getD i false = true) : AgreeM (l.set i false) (delM m i) := by
  have hg : getM m i = some (.bool true) := by rw [h.1 i (by omega), hasB_get l i hi, hf]; rfl
  refine ⟨fun x hx => ?_, ?_⟩
  · rw [getM_delM _ _ hn, hasB_set l i hi false x hx]
    by_cases e : x = i
    · rw [if_pos e, if_pos e]; rfl
    · rw [if_neg e, if_neg e]; exact h.1 x hx
  · have h1 := delM_length (i : Int) (m := m) (by rw [hg]; rfl)
    have h2 := count_set_false l i hi hf
    have h3 := count_pos l i hi hf
    have h4 := h.2
    omega
theorem setAll_notin (is : List Nat) : ∀ (l : List Bool) (x : Nat), x ∉ is → (Bt.setAll l is).getD x false = l.getD x false := by
  induction is with
  | nil => intro l x _; rfl
  | cons i r ih =>
    intro l x hx
    simp only [List.mem_cons, not_or] at hx
    show (Bt.setAll (l.set i true) r).getD x false = _
    rw [ih _ x hx.2, Bt.getD_set_ne l i x true (fun e => hx.1 e.symm)]
theorem gr_nodup (l : List Bool) : ∀ (j f : Nat), (Bt.gr l f j).Nodup
  | 0, f => by rw [Bt.gr_zero]; exact List.nodup_nil
  | j + 1, f => by
    cases hf : Bt.first l f false with
    | none => rw [Bt.gr_none hf]; exact List.nodup_nil
    | some i =>
      rw [Bt.gr_some hf, List.nodup_cons]
      refine ⟨fun hm => ?_, gr_nodup l j (i + 1)⟩
      have := (Bt.gr_lt l j (i + 1) i hm).2.1
      omega
theorem grabG_ok (l : List Bool) (k : Int) : (grabG l k).Nodup ∧ ∀ x ∈ grabG l k, x < l.length ∧ l.getD x false = false := by
  unfold grabG
  split
  · exact ⟨List.nodup_nil, fun x hx => absurd hx List.not_mem_nil⟩
  · exact ⟨gr_nodup l _ 0, fun x hx => ⟨(Bt.gr_lt l _ 0 x hx).1, (Bt.gr_lt l _ 0 x hx).2.2⟩⟩

/-- A pool (its list lp) beside a map of what was given out (its list lm). -/
structure Tw (B : Nat) (w0 : World) (n : Nat) (w : World) (q p wb mb : Nat) (lp lm : List Bool) (m : List (Int × Value)) : Prop where
  up : PoolUp B w0 w q p wb lp
  map : IMap w mb .u32 m
  lenp : lp.length = n
  lenm : lm.length = n
  nq : mb ≠ q
  np : mb ≠ p
  nw : mb ≠ wb
  bm : B ≤ mb
  agree : AgreeM lm m
theorem Tw.still {B : Nat} {w0 : World} {n : Nat} {w w' : World} {q p wb mb : Nat} {lp lm : List Bool} {m : List (Int × Value)} (h : Tw B w0 n w q p wb mb lp lm m) (hc : Still w w') : Tw B w0 n w' q p wb mb lp lm m :=
  ⟨h.up.still hc, h.map.chg hc id, h.lenp, h.lenm, h.nq, h.np, h.nw, h.bm, h.agree⟩
theorem Tw.pool {B : Nat} {w0 : World} {n : Nat} {w w' : World} {q p wb mb : Nat} {lp lm lp' : List Bool} {m : List (Int × Value)} (h : Tw B w0 n w q p wb mb lp lm m) (hp : IsPool w' q p wb lp') (hc : Chg (fun i => i = p ∨ i = wb) w w') (hl : lp'.length = n) : Tw B w0 n w' q p wb mb lp' lm m :=
  ⟨h.up.step hp hc, h.map.chg hc (by have h1 := h.np; have h2 := h.nw; show ¬ (mb = p ∨ mb = wb); omega), hl, h.lenm, h.nq, h.np, h.nw, h.bm, h.agree⟩
theorem Tw.mapped {B : Nat} {w0 : World} {n : Nat} {w w' : World} {q p wb mb : Nat} {lp lm lm' : List Bool} {m m' : List (Int × Value)} (h : Tw B w0 n w q p wb mb lp lm m) (hm : IMap w' mb .u32 m') (hc : Chg (fun i => i = mb) w w') (hl : lm'.length = n) (ha : AgreeM lm' m') : Tw B w0 n w' q p wb mb lp lm' m' := by
  have h1 := h.nq
  have h2 := h.np
  have h3 := h.nw
  exact ⟨⟨h.up.pool.chg hc (fun e => h1 e.symm) (fun e => h2 e.symm) (fun e => h3 e.symm), h.up.bq, h.up.bp, h.up.bw, Nat.le_trans h.up.hB hc.size, h.up.below.trans (hc.below h.up.hB (fun i hi => by rw [hi]; exact h.bm))⟩, hm, h.lenp, hl, h1, h2, h3, h.bm, ha⟩
theorem zero4' : ∀ w, (zeroValue 4).run Tryd.prog w = .ok (.bool false) w := fun w => by kernel_rfl
theorem Tw.has {B : Nat} {w0 : World} {n : Nat} {w : World} {q p wb mb : Nat} {lp lm : List Bool} {m : List (Int × Value)} (h : Tw B w0 n w q p wb mb lp lm m) (x : Int) (hx : 0 ≤ x) (v : Bool) (hv : hasB lm x = v) :
    (Instr.lookup 53 (.map (some mb)) (.int .u32 x) false).run Tryd.prog w = .ok (.bool v) w := by
  rw [run_lookup_imap (P := Tryd.prog) Tryd.underlying53 Tryd.underlying52 zero4' h.map x, h.agree.1 x hx, hv]
  cases v <;> rfl
end Go.Proofs.YtliamjhjdoakcaaDoor
