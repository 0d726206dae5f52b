/- The document's leaf and buffer: doing what messages say, putting a message. -/
import Derived.Test.YtekoibglogoaaaaDk
import Derived.Deep.RegionHeld3
namespace Go.Proofs.Ytekoibglogoaaaa
open Go Go.RowKit Go.Shelf
set_option linter.unusedVariables false
set_option linter.unusedSimpArgs false

set_option maxRecDepth 100000 in
set_option maxHeartbeats 1000000 in
theorem apply22 {w : World} {v1 v2 : Value} {xs : List Pr} {ms : List Msg} (h1 : Sl encP 2 w v1 xs) (h2 : Sl encM 3 w v2 ms) (hr : Rises Pr.k xs) (n1 : xs.length ≤ 400000) (n2 : ms.length ≤ 400000) (n3 : 0 < ms.length) :
    Calls Try.prog 22 #[v1, v2] w (PairsP (appL xs ms) w) := by
  have H1 := Lib.hid h1
  obtain ⟨A2, c2, rfl, qa2, qb2⟩ := h2.form
  have H2 := Lib.hid h2
  have HR0 := Lib.hid hr
  clear h1 h2 hr
  go_enter Try.func22, Try.ntmps22
  go_wp2_with fail
  go_loopw [0, 5] (fun v i wr => ∃ (k : Nat) (out : List Pr), k ≤ ms.length ∧ i = .int .i64 (k : Nat) ∧ Hid (Sl encP 2 wr v out) ∧ Hid (out = appL xs (ms.take k)) ∧ Hid (0 < k → FarV w.heap.size v) ∧ Still w wr) (fun _ i _ => ms.length - nv i)
  case atStart => exact ⟨0, xs, Nat.zero_le _, rfl, H1, Lib.hid rfl, Lib.hid (fun h => by omega), Chg.refl _ _⟩
  clear H1
  case round =>
    obtain ⟨k, out, hk, rfl, HO, HE, HFV, hs⟩ := hrel
    have HS := Lib.hid hs
    clear hs
    by_cases hlt : k < ms.length
    · have HRO : Hid (Rises Pr.k out) := Lib.hid (by rw [HE.out]; exact appL_rises _ HR0.out)
      have hol : out.length ≤ 800000 := by
        have := appL_len (ms.take k) xs
        rw [← HE.out, List.length_take] at this
        omega
      obtain ⟨b, off, rfl, hb, x0, x1, x2⟩ := (H2.out.still HS.out).msg k hlt
      have HX := Lib.hid (ge_some hlt)
      have HN : Hid (appL xs (ms.take (k + 1)) = app1 out ms[k]) := Lib.hid (by rw [List.take_succ_eq_append_getElem hlt, appL_snoc, ← HE.out])
      generalize ms[k] = m at x0 x1 x2 HX HN
      obtain ⟨key, del, val⟩ := m
      simp only at x0 x1 x2
      cases del with
      | true =>
        have HA : Hid (app1 out ⟨key, true, val⟩ = out.filter (fun p => decide (p.k ≠ key))) := Lib.hid (by rw [cutF_eq HRO.out]; rfl)
        go_wp2_with fail
        refine (cut50 key HO.out hol).mono ?_
        rintro e w2 ⟨v, rfl, ⟨hsl, hfv⟩, hs⟩
        have HO2 := Lib.hid hsl
        have HV2 : Hid (0 < k + 1 → FarV w.heap.size v) := Lib.hid (fun _ b off n c e h0 => Nat.le_trans HS.out.size (hfv b off n c e h0))
        have HS2 := Lib.hid (HS.out.trans hs)
        clear hfv
        clear hsl hs x0 x1 x2
        go_wp2
        go_roundw
        case rel => exact ⟨k + 1, _, by omega, by go_num, HO2, Lib.hid (by rw [HN.out, HA.out]), HV2, HS2.out⟩
        case measure => simp [nv]; omega
      | false =>
        have HA : Hid (app1 out ⟨key, false, val⟩ = loL Pr.k out key ++ ⟨key, val⟩ :: hiL Pr.k out key) := Lib.hid rfl
        have x3 := (Chg.drew (S := fun _ => False) wr).cell x0 id
        have x5 := (Chg.drew (S := fun _ => False) wr).cell x2 id
        have H0 := Lib.hid (And.intro x3 (And.intro x5 (Chg.drew (S := fun _ => False) wr)))
        clear x3 x5
        go_wp2_with fail
        refine wp_region_held_drew (S := fun w' => w'.cell? ⟨b, off + k * 3, none⟩ = some (.string key.1) ∧ w'.cell? ⟨b, off + k * 3 + 2, none⟩ = some (.string val.1) ∧ Still wr w') (by kernel_rfl) H0.out (fun hHeld => ?_)
        refine wpAnyH_take (i := 0) (oi := { dst := some 24, op := _, type := _, pos := _, after := _, guard := _ }) (v := ?_) rfl (by kernel_rfl) (by kernel_rfl) (by kernel_rfl) (fun _ _ _ h => h) (Or.inl ⟨by rfl, ?_⟩) (by assumption) ?_
        case refine_2 => intro w hSw; (try dsimp only at hSw); go_simp; all_goals (with_reducible rfl)
        try simp only [Act.put, List.setIfInBounds_toArray, List.set_cons_zero, List.set_cons_succ]
        refine wpAnyH_take (i := 1) (oi := { dst := some 25, op := _, type := _, pos := _, after := _, guard := _ }) (v := ?_) rfl (by kernel_rfl) (by kernel_rfl) (by kernel_rfl) (fun _ _ _ h => h) (Or.inl ⟨by rfl, ?_⟩) (by assumption) ?_
        case refine_2 => intro w hSw; (try dsimp only at hSw); go_simp; all_goals (with_reducible rfl)
        try simp only [Act.put, List.setIfInBounds_toArray, List.set_cons_zero, List.set_cons_succ]
        refine wpAnyH_take (i := 2) (oi := { dst := some 26, op := _, type := _, pos := _, after := _, guard := _ }) (v := ?_) rfl (by kernel_rfl) (by kernel_rfl) (by kernel_rfl) (fun _ _ _ h => h) (Or.inl ⟨by rfl, ?_⟩) (by assumption) ?_
        case refine_2 => intro w hSw; (try dsimp only at hSw); go_simp; all_goals (with_reducible rfl)
        try simp only [Act.put, List.setIfInBounds_toArray, List.set_cons_zero, List.set_cons_succ]
        refine wpAnyH_take (i := 3) (oi := { dst := some 27, op := _, type := _, pos := _, after := _, guard := _ }) (v := ?_) rfl (by kernel_rfl) (by kernel_rfl) (by kernel_rfl) (fun _ _ _ h => h) (Or.inl ⟨by rfl, ?_⟩) (by assumption) ?_
        case refine_2 => intro w hSw; (try dsimp only at hSw); go_simp; all_goals (with_reducible rfl)
        try simp only [Act.put, List.setIfInBounds_toArray, List.set_cons_zero, List.set_cons_succ]
        refine wpAnyH_take (i := 4) (oi := { dst := some 28, op := _, type := _, pos := _, after := _, guard := _ }) (v := ?_) rfl (by kernel_rfl) (by kernel_rfl) (by kernel_rfl) (fun _ _ _ h => h) (Or.inl ⟨by rfl, ?_⟩) (by assumption) ?_
        case refine_2 => intro w hSw; (try dsimp only at hSw); go_simp; all_goals (with_reducible rfl)
        try simp only [Act.put, List.setIfInBounds_toArray, List.set_cons_zero, List.set_cons_succ]
        refine wpAnyH_take (i := 5) (oi := { dst := some 29, op := _, type := _, pos := _, after := _, guard := _ }) (v := ?_) rfl (by kernel_rfl) (by kernel_rfl) (by kernel_rfl) (fun _ _ _ h => h) (Or.inl ⟨by rfl, ?_⟩) (by assumption) ?_
        case refine_2 => intro w hSw; (try dsimp only at hSw); go_simp; all_goals (with_reducible rfl)
        try simp only [Act.put, List.setIfInBounds_toArray, List.set_cons_zero, List.set_cons_succ]
        refine wpAnyH_take (i := 6) (oi := { dst := some 30, op := _, type := _, pos := _, after := _, guard := _ }) (v := ?_) rfl (by kernel_rfl) (by kernel_rfl) (by kernel_rfl) (fun _ _ _ h => h) (Or.inl ⟨by rfl, ?_⟩) (by assumption) ?_
        case refine_2 => intro w hSw; (try dsimp only at hSw); go_simp; all_goals (with_reducible rfl)
        try simp only [Act.put, List.setIfInBounds_toArray, List.set_cons_zero, List.set_cons_succ]
        refine wpAnyH_take (i := 7) (oi := { dst := some 31, op := _, type := _, pos := _, after := _, guard := _ }) (v := ?_) rfl (by kernel_rfl) (by kernel_rfl) (by kernel_rfl) (fun _ _ _ h => h) (Or.inl ⟨by rfl, ?_⟩) (by assumption) ?_
        case refine_2 => intro w hSw; (try dsimp only at hSw); go_simp; all_goals (with_reducible rfl)
        try simp only [Act.put, List.setIfInBounds_toArray, List.set_cons_zero, List.set_cons_succ]
        refine wpAnyH_take (i := 8) (oi := { dst := some 32, op := _, type := _, pos := _, after := _, guard := _ }) (v := ?_) rfl (by kernel_rfl) (by kernel_rfl) (by kernel_rfl) (fun _ _ _ h => h) (Or.inl ⟨by rfl, ?_⟩) (by assumption) ?_
        case refine_2 => intro w hSw; (try dsimp only at hSw); go_simp; all_goals (with_reducible rfl)
        try simp only [Act.put, List.setIfInBounds_toArray, List.set_cons_zero, List.set_cons_succ]
        refine wpAnyH_take (i := 9) (oi := { dst := some 33, op := _, type := _, pos := _, after := _, guard := _ }) (v := ?_) rfl (by kernel_rfl) (by kernel_rfl) (by kernel_rfl) (fun _ _ _ h => h) (Or.inl ⟨by rfl, ?_⟩) (by assumption) ?_
        case refine_2 => intro w hSw; (try dsimp only at hSw); go_simp; all_goals (with_reducible rfl)
        try simp only [Act.put, List.setIfInBounds_toArray, List.set_cons_zero, List.set_cons_succ]
        refine wpAnyH_take (i := 10) (oi := { dst := some 34, op := _, type := _, pos := _, after := _, guard := _ }) (v := ?_) rfl (by kernel_rfl) (by kernel_rfl) (by kernel_rfl) (fun _ _ _ h => h) (Or.inl ⟨by rfl, ?_⟩) (by assumption) ?_
        case refine_2 => intro w hSw; (try dsimp only at hSw); go_simp; all_goals (with_reducible rfl)
        try simp only [Act.put, List.setIfInBounds_toArray, List.set_cons_zero, List.set_cons_succ]
        refine wpAnyH_ready (rs := [11]) (by kernel_rfl) (by simp) ?_
        refine AllReadyH.cons (o := _) rfl (fun K hK => ?_) AllReadyH.nil
        go_simp
        refine (put51 key val (HO.out.still hHeld.2.2) HRO.out hol).mono ?_
        rintro e w2 ⟨v, rfl, ⟨hsl, hfv⟩, hs⟩
        go_wp2_with fail
        have HO2 := Lib.hid hsl
        have HV2 : Hid (0 < k + 1 → FarV w.heap.size v) := Lib.hid (fun _ b off n c e h0 => Nat.le_trans (HS.out.trans hHeld.2.2).size (hfv b off n c e h0))
        clear hfv
        refine hK.out _ _ (⟨hs.cell hHeld.1 id, hs.cell hHeld.2.1 id, hHeld.2.2.trans hs⟩) (fun hHeld => ?_)
        clear hK K
        have HS2 := Lib.hid (HS.out.trans hHeld.2.2)
        clear hsl hs
        try simp only [Act.put, List.setIfInBounds_toArray, List.set_cons_zero, List.set_cons_succ]
        refine wpAnyH_take (i := 12) (oi := { dst := some 0, op := _, type := _, pos := _, after := _, guard := _ }) (v := ?_) rfl (by kernel_rfl) (by kernel_rfl) (by kernel_rfl) (fun _ _ _ h => h) (Or.inl ⟨by rfl, ?_⟩) (by assumption) ?_
        case refine_2 => intro w hSw; (try dsimp only at hSw); go_simp; all_goals (with_reducible rfl)
        try simp only [Act.put, List.setIfInBounds_toArray, List.set_cons_zero, List.set_cons_succ]
        refine wpAnyH_done (by kernel_rfl) ?_ _
        clear hHeld x0 x1 x2
        go_wp2
        go_roundw
        case rel => exact ⟨k + 1, _, by omega, by go_num, HO2, Lib.hid (by rw [HN.out, HA.out]), HV2, HS2.out⟩
        case measure => simp [nv]; omega
    · have HE2 : Hid (out = appL xs ms) := Lib.hid (by rw [HE.out, List.take_of_length_le (by omega)])
      go_wp2
      go_ret
      exact ⟨_, rfl, by rw [← HE2.out]; exact ⟨HO.out, HFV.out (by omega)⟩, HS.out⟩

/-- A buffer with a message put in. -/
def putM (xs : List Msg) (m : Msg) : List Msg := loL Msg.k xs m.k ++ m :: hiL Msg.k xs m.k
theorem lo_snoc (xs : List Msg) (x : Msg) (k : K) : loL Msg.k (xs ++ [x]) k = loL Msg.k xs k ++ (if kt x.k k then [x] else []) := by
  unfold loL; rw [List.filter_append]; congr 1; cases h : kt x.k k <;> simp [h]
theorem hi_snoc (xs : List Msg) (x : Msg) (k : K) : hiL Msg.k (xs ++ [x]) k = hiL Msg.k xs k ++ (if kt k x.k then [x] else []) := by
  unfold hiL; rw [List.filter_append]; congr 1; cases h : kt k x.k <;> simp [h]
/-- What has been laid down behind so many messages. -/
def PutI (xs : List Msg) (m : Msg) (k : Nat) (done : Bool) (acc : List Msg) : Prop :=
  (done = false → acc = xs.take k ∧ ∀ x ∈ xs.take k, kt x.k m.k = true) ∧
  (done = true → acc = loL Msg.k (xs.take k) m.k ++ m :: hiL Msg.k (xs.take k) m.k ∧ ∃ (t : Nat) (y : Msg), t < k ∧ xs[t]? = some y ∧ ke m.k y.k = true)
theorem PutI.below {xs : List Msg} {m x : Msg} {k : Nat} {acc : List Msg} (h : PutI xs m k false acc) (hx : xs[k]? = some x) (hlt : kt x.k m.k = true) : PutI xs m (k + 1) false (acc ++ [x]) := by
  obtain ⟨h1, h2⟩ := h.1 rfl
  have hk := (List.getElem?_eq_some_iff.1 hx)
  obtain ⟨hk1, rfl⟩ := hk
  refine ⟨fun _ => ?_, fun h => by simp at h⟩
  rw [List.take_succ_eq_append_getElem hk1, h1]
  refine ⟨rfl, fun y hy => ?_⟩
  rcases List.mem_append.1 hy with hy | hy
  · exact h2 y hy
  · simp only [List.mem_singleton] at hy
    subst hy
    exact hlt
theorem PutI.here {xs : List Msg} {m x : Msg} {k : Nat} {acc : List Msg} (h : PutI xs m k false acc) (hx : xs[k]? = some x) (hle : ke m.k x.k = true) :
    (x.k = m.k → PutI xs m (k + 1) true (acc ++ [m])) ∧ (x.k ≠ m.k → PutI xs m (k + 1) true (acc ++ [m] ++ [x])) := by
  obtain ⟨h1, h2⟩ := h.1 rfl
  obtain ⟨hk1, rfl⟩ := List.getElem?_eq_some_iff.1 hx
  have e1 : loL Msg.k (xs.take k) m.k = xs.take k := filter_all h2
  have e2 : hiL Msg.k (xs.take k) m.k = [] := filter_none (fun y hy => kt_asymm (h2 y hy))
  have hn : kt xs[k].k m.k = false := by have := hle; unfold ke at this; simpa using this
  constructor
  · intro e
    refine ⟨fun h => by simp at h, fun _ => ⟨?_, k, _, by omega, hx, hle⟩⟩
    rw [List.take_succ_eq_append_getElem hk1, lo_snoc, hi_snoc, e1, e2, e, kt_irr, h1]
    simp
  · intro e
    have hgt : kt m.k xs[k].k = true := kt_of_le hn e
    refine ⟨fun h => by simp at h, fun _ => ⟨?_, k, _, by omega, hx, hle⟩⟩
    rw [List.take_succ_eq_append_getElem hk1, lo_snoc, hi_snoc, e1, e2, hn, hgt, h1]
    simp
theorem PutI.behind {xs : List Msg} {m x : Msg} {k : Nat} {acc : List Msg} (hr : Rises Msg.k xs) (h : PutI xs m k true acc) (hx : xs[k]? = some x) : x.k ≠ m.k ∧ PutI xs m (k + 1) true (acc ++ [x]) := by
  obtain ⟨h1, t, y, ht, hy, hle⟩ := h.2 rfl
  obtain ⟨hk1, rfl⟩ := List.getElem?_eq_some_iff.1 hx
  have hgt : kt m.k xs[k].k = true := ke_kt hle (hr.lt' ht hy hx)
  refine ⟨Ne.symm (kt_ne hgt), fun h => by simp at h, fun _ => ⟨?_, t, y, by omega, hy, hle⟩⟩
  rw [List.take_succ_eq_append_getElem hk1, lo_snoc, hi_snoc, hgt, kt_asymm hgt, h1]
  simp
theorem PutI.end_t {xs : List Msg} {m : Msg} {k : Nat} {acc : List Msg} (h : PutI xs m k true acc) (hk : xs.length ≤ k) : acc = putM xs m := by
  have := (h.2 rfl).1
  rw [List.take_of_length_le hk] at this
  exact this
theorem PutI.end_f {xs : List Msg} {m : Msg} {k : Nat} {acc : List Msg} (h : PutI xs m k false acc) (hk : xs.length ≤ k) : acc ++ [m] = putM xs m := by
  obtain ⟨h1, h2⟩ := h.1 rfl
  rw [List.take_of_length_le hk] at h1 h2
  unfold putM
  rw [show loL Msg.k xs m.k = xs from filter_all h2, show hiL Msg.k xs m.k = [] from filter_none (fun y hy => kt_asymm (h2 y hy)), h1]

theorem box_grown {w w' : World} {g ty sz n : Nat} {o : Obj} {v : Value} {xs : List Value} (h : w.heap[g]? = some o) (ho : w.ownsRow (g + 1) ty sz v n xs) (hg : w.grownBy w' v.ownBlock) : w'.heap[g]? = some o :=
  (hg.block g (heap_lt h) (fun e => by have := (ho.lt g e.symm).1; omega)).trans h
set_option maxRecDepth 100000 in
set_option maxHeartbeats 2000000 in
theorem put23 {w : World} {v : Value} {xs : List Msg} (m : Msg) (h : Sl encM 3 w v xs) (hr : Rises Msg.k xs) (n1 : xs.length ≤ 400000) :
    Calls Try.prog 23 #[v, .agg #[.string m.k.1, .bool m.d, .string m.v.1]] w (ConcatP (putM xs m) w) := by
  obtain ⟨A, c, rfl, qa, qb⟩ := h.form
  have H := Lib.hid h
  have HRS := Lib.hid hr
  obtain ⟨i0, hi0, hz0, hz1, hz2⟩ := info45_
  have HI := Lib.hid hi0
  have hsz1 := size_al w (.cells #[.string m.k.1, .bool m.d, .string m.v.1] 45)
  have HO1 : Hid (((w.alloc (.cells #[.string m.k.1, .bool m.d, .string m.v.1] 45)).alloc (.cells #[] 45)).ownsRow (w.heap.size + 1) 45 3 (.slice (some ⟨w.heap.size + 1, 0, none⟩) 0 0) 0 []) := Lib.hid (by
    have := World.ownsRow_made (base := w.heap.size + 1) (e := 45) (size := 3) (w.alloc (.cells #[.string m.k.1, .bool m.d, .string m.v.1] 45)) #[] 0 (by rw [hsz1]; omega) (Nat.zero_le _) (by simp)
    rwa [hsz1] at this)
  have HB1 : Hid (((w.alloc (.cells #[.string m.k.1, .bool m.d, .string m.v.1] 45)).alloc (.cells #[] 45)).heap[w.heap.size]? = some (.cells #[.string m.k.1, .bool m.d, .string m.v.1] 45)) := Lib.hid ((Chg.alloc (S := fun _ => False) _ _).heap (heap_alloc_new w _) id)
  have HS1 : Hid (Still w ((w.alloc (.cells #[.string m.k.1, .bool m.d, .string m.v.1] 45)).alloc (.cells #[] 45))) := Lib.hid ((Chg.alloc w _).allocs _)
  have HL1 : Hid (w.heap.size + 1 ≤ ((w.alloc (.cells #[.string m.k.1, .bool m.d, .string m.v.1] 45)).alloc (.cells #[] 45)).heap.size) := Lib.hid (by rw [size_al, hsz1]; omega)
  clear hi0 h hr hsz1
  go_enter Try.func23, Try.ntmps23
  go_wp2_with fail
  go_loopw [5, 6, 7] (fun v d i wr => ∃ (k : Nat) (done : Bool) (acc : List Msg), k ≤ xs.length ∧ i = .int .i64 (k : Nat) ∧ d = .bool done ∧ Hid (wr.ownsRow (w.heap.size + 1) 45 3 v acc.length (acc.flatMap encM)) ∧ Hid (PutI xs m k done acc) ∧ acc.length ≤ k + 1 ∧ Hid (wr.heap[w.heap.size]? = some (.cells #[.string m.k.1, .bool m.d, .string m.v.1] 45)) ∧ Hid (w.heap.size + 1 ≤ wr.heap.size) ∧ Still w wr) (fun _ _ i _ => xs.length - nv i)
  case atStart => exact ⟨0, false, [], Nat.zero_le _, rfl, rfl, HO1, Lib.hid ⟨fun _ => ⟨rfl, fun x hx => by simp at hx⟩, fun h => by simp at h⟩, by simp, HB1, HL1, HS1.out⟩
  clear HO1 HB1 HS1 HL1
  case round =>
    obtain ⟨k, done, acc, hk, rfl, rfl, HO, HP, hal, HB, HL, hs⟩ := hrel
    have HS := Lib.hid hs
    clear hs
    by_cases hlt : k < xs.length
    · obtain ⟨b0, off0, hA0, -, -, -, -⟩ := H.out.msg k hlt
      subst hA0
      have HX := Lib.hid (ge_some hlt)
      obtain ⟨x, hx⟩ : ∃ x, x = xs[k] := ⟨_, rfl⟩
      have hXe := Lib.hid hx.symm
      rw [← hx] at HX
      clear hx
      cases done with
      | false =>
        obtain ⟨b, off, hbe, -, x0, x1, x2⟩ := (H.out.still HS.out).msg k hlt
        simp only [Option.some.injEq, Addr.mk.injEq, and_true] at hbe
        obtain ⟨hb1, hb2⟩ := hbe
        subst hb1 hb2
        rw [hXe.out] at x0 x1 x2
        have m0 := heap_cell (j := 0) HB.out rfl
        have m1 := heap_cell (j := 1) HB.out rfl
        have m2 := heap_cell (j := 2) HB.out rfl
        go_wp2_with fail
        go_quiet ((go_at_call 28; exact rcompare_q m.k x.k wr _))
        have HO_wq := Lib.hid (own_still HO.out (Chg.drewN nq wr))
        have HS_wq := Lib.hid (HS.out.trans (Chg.drewN nq wr))
        have HB_wq : Hid ((wr.drewN nq).heap[w.heap.size]? = some (.cells #[.string m.k.1, .bool m.d, .string m.v.1] 45)) := Lib.hid HB.out
        have HL_wq : Hid (w.heap.size + 1 ≤ (wr.drewN nq).heap.size) := Lib.hid HL.out
        clear x0 x1 x2 m0 m1 m2
        generalize wr.drewN nq = wq at *
        by_cases hc : kc m.k x.k ≤ 0
        · have hle := kc_le.1 hc
          obtain ⟨pe, pn⟩ := HP.out.here HX.out hle
          have hak : acc.length ≤ k := by
            have := (HP.out.1 rfl).1
            rw [this, List.length_take]
            omega
          have HPE := Lib.hid pe
          have HPN := Lib.hid pn
          have hd : decide (kc m.k x.k ≤ 0) = true := decide_eq_true hc
          clear hle pe pn
          obtain ⟨b, off, hbe, -, x0, x1, x2⟩ := (H.out.still HS_wq.out).msg k hlt
          simp only [Option.some.injEq, Addr.mk.injEq, and_true] at hbe
          obtain ⟨hb1, hb2⟩ := hbe
          subst hb1 hb2
          rw [hXe.out] at x0 x1 x2
          have m0 := heap_cell (j := 0) HB_wq.out rfl
          have m1 := heap_cell (j := 1) HB_wq.out rfl
          have m2 := heap_cell (j := 2) HB_wq.out rfl
          go_wp2_with (at_builtin; refine wpList_append_any (enc := encM) rfl _ _ 26 rfl (w.heap.size + 1) 45 i0 (.agg #[.string ⟨#[]⟩, .bool false, .string ⟨#[]⟩]) 3 40 under26_ HI.out hz0 hz1 hz2 rfl (by decide) lenM _ acc.length (acc.flatMap encM) rfl (own_still HO_wq.out (Chg.alloc _ _)) (some ⟨wq.heap.size, 0, none⟩) 1 1 [m] rfl (one_sl lenM wq m 45 #[.string m.k.1, .bool m.d, .string m.v.1] rfl) (oneM _) (by unfold maxLen; (try simp only [List.length_append, List.length_singleton]); omega) (by (try simp only [List.length_append, List.length_singleton]); omega) (Nat.le_trans HL_wq.out (Chg.alloc (S := fun _ => False) _ _).size) ?_)
          intro va wa hown hg
          have HO_wa : Hid (wa.ownsRow (w.heap.size + 1) 45 3 va (acc ++ [m]).length ((acc ++ [m]).flatMap encM)) := Lib.hid (by simpa [List.length_append, List.flatMap_append] using hown)
          have HS_wa := Lib.hid (still_grown (HS_wq.out.allocs (.cells #[.string m.k.1, .bool m.d, .string m.v.1] 45)) (own_still HO_wq.out (Chg.alloc _ _)) (Nat.le_succ _) hg)
          have HB_wa := Lib.hid (box_grown ((Chg.alloc (S := fun _ => False) wq (.cells #[.string m.k.1, .bool m.d, .string m.v.1] 45)).heap HB_wq.out id) (own_still HO_wq.out (Chg.alloc _ _)) hg)
          have HL_wa : Hid (w.heap.size + 1 ≤ wa.heap.size) := Lib.hid (Nat.le_trans (Nat.le_trans HL_wq.out (Chg.alloc (S := fun _ => False) _ _).size) hg.size)
          clear hown hg
          clear x0 x1 x2 m0 m1 m2
          obtain ⟨b, off, hbe, -, x0, x1, x2⟩ := (H.out.still HS_wa.out).msg k hlt
          simp only [Option.some.injEq, Addr.mk.injEq, and_true] at hbe
          obtain ⟨hb1, hb2⟩ := hbe
          subst hb1 hb2
          rw [hXe.out] at x0 x1 x2
          have m0 := heap_cell (j := 0) HB_wa.out rfl
          have m1 := heap_cell (j := 1) HB_wa.out rfl
          have m2 := heap_cell (j := 2) HB_wa.out rfl
          go_wp2_with fail
          go_quiet (fail)
          have HO_wb := Lib.hid (own_still HO_wa.out (Chg.drewN nq wa))
          have HS_wb := Lib.hid (HS_wa.out.trans (Chg.drewN nq wa))
          have HB_wb : Hid ((wa.drewN nq).heap[w.heap.size]? = some (.cells #[.string m.k.1, .bool m.d, .string m.v.1] 45)) := Lib.hid HB_wa.out
          have HL_wb : Hid (w.heap.size + 1 ≤ (wa.drewN nq).heap.size) := Lib.hid HL_wa.out
          clear x0 x1 x2 m0 m1 m2
          generalize wa.drewN nq = wb at *
          by_cases hne : x.k = m.k
          · have e1 : x.k.1.toList = m.k.1.toList := by rw [hne]
            have e2 : (x.k.1.toList == m.k.1.toList) = true := by rw [hne]; simp
            have e3 : (x.k.1.toList != m.k.1.toList) = false := by rw [hne]; simp
            have HF0 := Lib.hid (HPE.out hne)
            clear hne
            simp only [e2, Bool.not_true]
            clear e1
            have HF : Hid (PutI xs m (k + 1) true (acc ++ [m])) := Lib.hid (HF0.out)
            have hfl : (acc ++ [m]).length ≤ k + 1 + 1 := by (try simp only [List.length_append, List.length_singleton]); omega
            have HFL := Lib.hid hfl
            clear hfl
            go_wp2
            go_roundw
            case rel => exact ⟨k + 1, true, acc ++ [m], by omega, by go_num, rfl, HO_wb, HF, HFL.out, HB_wb, HL_wb, HS_wb.out⟩
            case measure => simp [nv]; omega
          · have HF0 := Lib.hid (HPN.out hne)
            have e1 := kne hne
            have e2 := kneB hne
            have e3 : (x.k.1.toList != m.k.1.toList) = true := by rw [bne, e2]; rfl
            clear hne
            simp only [e2, Bool.not_false]
            obtain ⟨b, off, hbe, -, x0, x1, x2⟩ := (H.out.still HS_wb.out).msg k hlt
            simp only [Option.some.injEq, Addr.mk.injEq, and_true] at hbe
            obtain ⟨hb1, hb2⟩ := hbe
            subst hb1 hb2
            rw [hXe.out] at x0 x1 x2
            have m0 := heap_cell (j := 0) HB_wb.out rfl
            have m1 := heap_cell (j := 1) HB_wb.out rfl
            have m2 := heap_cell (j := 2) HB_wb.out rfl
            go_wp2_with (at_builtin; refine wpList_append_any (enc := encM) rfl _ _ 26 rfl (w.heap.size + 1) 45 i0 (.agg #[.string ⟨#[]⟩, .bool false, .string ⟨#[]⟩]) 3 40 under26_ HI.out hz0 hz1 hz2 rfl (by decide) lenM _ (acc ++ [m]).length ((acc ++ [m]).flatMap encM) rfl (own_still HO_wb.out (Chg.alloc _ _)) (some ⟨wb.heap.size, 0, none⟩) 1 1 [x] rfl (one_sl lenM wb x 45 #[.string x.k.1, .bool x.d, .string x.v.1] rfl) (oneM _) (by unfold maxLen; (try simp only [List.length_append, List.length_singleton]); omega) (by (try simp only [List.length_append, List.length_singleton]); omega) (Nat.le_trans HL_wb.out (Chg.alloc (S := fun _ => False) _ _).size) ?_)
            intro vc wc hown hg
            have HO_wc : Hid (wc.ownsRow (w.heap.size + 1) 45 3 vc ((acc ++ [m]) ++ [x]).length (((acc ++ [m]) ++ [x]).flatMap encM)) := Lib.hid (by simpa [List.length_append, List.flatMap_append] using hown)
            have HS_wc := Lib.hid (still_grown (HS_wb.out.allocs (.cells #[.string x.k.1, .bool x.d, .string x.v.1] 45)) (own_still HO_wb.out (Chg.alloc _ _)) (Nat.le_succ _) hg)
            have HB_wc := Lib.hid (box_grown ((Chg.alloc (S := fun _ => False) wb (.cells #[.string x.k.1, .bool x.d, .string x.v.1] 45)).heap HB_wb.out id) (own_still HO_wb.out (Chg.alloc _ _)) hg)
            have HL_wc : Hid (w.heap.size + 1 ≤ wc.heap.size) := Lib.hid (Nat.le_trans (Nat.le_trans HL_wb.out (Chg.alloc (S := fun _ => False) _ _).size) hg.size)
            clear hown hg
            clear x0 x1 x2 m0 m1 m2
            have HF : Hid (PutI xs m (k + 1) true (acc ++ [m] ++ [x])) := Lib.hid (HF0.out)
            have hfl : (acc ++ [m] ++ [x]).length ≤ k + 1 + 1 := by (try simp only [List.length_append, List.length_singleton]); omega
            have HFL := Lib.hid hfl
            clear hfl
            go_wp2
            go_roundw
            case rel => exact ⟨k + 1, true, acc ++ [m] ++ [x], by omega, by go_num, rfl, HO_wc, HF, HFL.out, HB_wc, HL_wc, HS_wc.out⟩
            case measure => simp [nv]; omega
        · have hlt2 : kt x.k m.k = true := by
            have := kc_gt.1 (show 0 < kc m.k x.k by omega)
            exact this
          have hne : x.k ≠ m.k := kt_ne hlt2
          have HF0 := Lib.hid (HP.out.below HX.out hlt2)
          have hd : decide (kc m.k x.k ≤ 0) = false := decide_eq_false hc
          have hd2 : 0 < kc m.k x.k := by omega
          have hd3 : ¬ kc m.k x.k ≤ 0 := hc
          have e1 := kne hne
          have e2 := kneB hne
          have e3 : (x.k.1.toList != m.k.1.toList) = true := by rw [bne, e2]; rfl
          clear hlt2 hc
          clear hne
          obtain ⟨b, off, hbe, -, x0, x1, x2⟩ := (H.out.still HS_wq.out).msg k hlt
          simp only [Option.some.injEq, Addr.mk.injEq, and_true] at hbe
          obtain ⟨hb1, hb2⟩ := hbe
          subst hb1 hb2
          rw [hXe.out] at x0 x1 x2
          have m0 := heap_cell (j := 0) HB_wq.out rfl
          have m1 := heap_cell (j := 1) HB_wq.out rfl
          have m2 := heap_cell (j := 2) HB_wq.out rfl
          go_wp2_with fail
          go_quiet (fail)
          have HO_wb := Lib.hid (own_still HO_wq.out (Chg.drewN nq wq))
          have HS_wb := Lib.hid (HS_wq.out.trans (Chg.drewN nq wq))
          have HB_wb : Hid ((wq.drewN nq).heap[w.heap.size]? = some (.cells #[.string m.k.1, .bool m.d, .string m.v.1] 45)) := Lib.hid HB_wq.out
          have HL_wb : Hid (w.heap.size + 1 ≤ (wq.drewN nq).heap.size) := Lib.hid HL_wq.out
          clear x0 x1 x2 m0 m1 m2
          generalize wq.drewN nq = wb at *
          obtain ⟨b, off, hbe, -, x0, x1, x2⟩ := (H.out.still HS_wb.out).msg k hlt
          simp only [Option.some.injEq, Addr.mk.injEq, and_true] at hbe
          obtain ⟨hb1, hb2⟩ := hbe
          subst hb1 hb2
          rw [hXe.out] at x0 x1 x2
          have m0 := heap_cell (j := 0) HB_wb.out rfl
          have m1 := heap_cell (j := 1) HB_wb.out rfl
          have m2 := heap_cell (j := 2) HB_wb.out rfl
          go_wp2_with (at_builtin; refine wpList_append_any (enc := encM) rfl _ _ 26 rfl (w.heap.size + 1) 45 i0 (.agg #[.string ⟨#[]⟩, .bool false, .string ⟨#[]⟩]) 3 40 under26_ HI.out hz0 hz1 hz2 rfl (by decide) lenM _ acc.length (acc.flatMap encM) rfl (own_still HO_wb.out (Chg.alloc _ _)) (some ⟨wb.heap.size, 0, none⟩) 1 1 [x] rfl (one_sl lenM wb x 45 #[.string x.k.1, .bool x.d, .string x.v.1] rfl) (oneM _) (by unfold maxLen; (try simp only [List.length_append, List.length_singleton]); omega) (by (try simp only [List.length_append, List.length_singleton]); omega) (Nat.le_trans HL_wb.out (Chg.alloc (S := fun _ => False) _ _).size) ?_)
          intro vc wc hown hg
          have HO_wc : Hid (wc.ownsRow (w.heap.size + 1) 45 3 vc (acc ++ [x]).length ((acc ++ [x]).flatMap encM)) := Lib.hid (by simpa [List.length_append, List.flatMap_append] using hown)
          have HS_wc := Lib.hid (still_grown (HS_wb.out.allocs (.cells #[.string x.k.1, .bool x.d, .string x.v.1] 45)) (own_still HO_wb.out (Chg.alloc _ _)) (Nat.le_succ _) hg)
          have HB_wc := Lib.hid (box_grown ((Chg.alloc (S := fun _ => False) wb (.cells #[.string x.k.1, .bool x.d, .string x.v.1] 45)).heap HB_wb.out id) (own_still HO_wb.out (Chg.alloc _ _)) hg)
          have HL_wc : Hid (w.heap.size + 1 ≤ wc.heap.size) := Lib.hid (Nat.le_trans (Nat.le_trans HL_wb.out (Chg.alloc (S := fun _ => False) _ _).size) hg.size)
          clear hown hg
          clear x0 x1 x2 m0 m1 m2
          have HF : Hid (PutI xs m (k + 1) false (acc ++ [x])) := Lib.hid (HF0.out)
          have hfl : (acc ++ [x]).length ≤ k + 1 + 1 := by (try simp only [List.length_append, List.length_singleton]); omega
          have HFL := Lib.hid hfl
          clear hfl
          go_wp2
          go_roundw
          case rel => exact ⟨k + 1, false, acc ++ [x], by omega, by go_num, rfl, HO_wc, HF, HFL.out, HB_wc, HL_wc, HS_wc.out⟩
          case measure => simp [nv]; omega
      | true =>
        obtain ⟨hne, hpi⟩ := HP.out.behind HRS.out HX.out
        have HF0 := Lib.hid hpi
        clear hpi
        have e1 := kne hne
        have e2 := kneB hne
        have e3 : (x.k.1.toList != m.k.1.toList) = true := by rw [bne, e2]; rfl
        clear hne
        obtain ⟨b, off, hbe, -, x0, x1, x2⟩ := (H.out.still HS.out).msg k hlt
        simp only [Option.some.injEq, Addr.mk.injEq, and_true] at hbe
        obtain ⟨hb1, hb2⟩ := hbe
        subst hb1 hb2
        rw [hXe.out] at x0 x1 x2
        have m0 := heap_cell (j := 0) HB.out rfl
        have m1 := heap_cell (j := 1) HB.out rfl
        have m2 := heap_cell (j := 2) HB.out rfl
        go_wp2_with fail
        go_quiet (fail)
        have HO_wq := Lib.hid (own_still HO.out (Chg.drewN nq wr))
        have HS_wq := Lib.hid (HS.out.trans (Chg.drewN nq wr))
        have HB_wq : Hid ((wr.drewN nq).heap[w.heap.size]? = some (.cells #[.string m.k.1, .bool m.d, .string m.v.1] 45)) := Lib.hid HB.out
        have HL_wq : Hid (w.heap.size + 1 ≤ (wr.drewN nq).heap.size) := Lib.hid HL.out
        clear x0 x1 x2 m0 m1 m2
        generalize wr.drewN nq = wq at *
        obtain ⟨b, off, hbe, -, x0, x1, x2⟩ := (H.out.still HS_wq.out).msg k hlt
        simp only [Option.some.injEq, Addr.mk.injEq, and_true] at hbe
        obtain ⟨hb1, hb2⟩ := hbe
        subst hb1 hb2
        rw [hXe.out] at x0 x1 x2
        have m0 := heap_cell (j := 0) HB_wq.out rfl
        have m1 := heap_cell (j := 1) HB_wq.out rfl
        have m2 := heap_cell (j := 2) HB_wq.out rfl
        go_wp2_with fail
        go_quiet (fail)
        have HO_wb := Lib.hid (own_still HO_wq.out (Chg.drewN nq wq))
        have HS_wb := Lib.hid (HS_wq.out.trans (Chg.drewN nq wq))
        have HB_wb : Hid ((wq.drewN nq).heap[w.heap.size]? = some (.cells #[.string m.k.1, .bool m.d, .string m.v.1] 45)) := Lib.hid HB_wq.out
        have HL_wb : Hid (w.heap.size + 1 ≤ (wq.drewN nq).heap.size) := Lib.hid HL_wq.out
        clear x0 x1 x2 m0 m1 m2
        generalize wq.drewN nq = wb at *
        obtain ⟨b, off, hbe, -, x0, x1, x2⟩ := (H.out.still HS_wb.out).msg k hlt
        simp only [Option.some.injEq, Addr.mk.injEq, and_true] at hbe
        obtain ⟨hb1, hb2⟩ := hbe
        subst hb1 hb2
        rw [hXe.out] at x0 x1 x2
        have m0 := heap_cell (j := 0) HB_wb.out rfl
        have m1 := heap_cell (j := 1) HB_wb.out rfl
        have m2 := heap_cell (j := 2) HB_wb.out rfl
        go_wp2_with (at_builtin; refine wpList_append_any (enc := encM) rfl _ _ 26 rfl (w.heap.size + 1) 45 i0 (.agg #[.string ⟨#[]⟩, .bool false, .string ⟨#[]⟩]) 3 40 under26_ HI.out hz0 hz1 hz2 rfl (by decide) lenM _ acc.length (acc.flatMap encM) rfl (own_still HO_wb.out (Chg.alloc _ _)) (some ⟨wb.heap.size, 0, none⟩) 1 1 [x] rfl (one_sl lenM wb x 45 #[.string x.k.1, .bool x.d, .string x.v.1] rfl) (oneM _) (by unfold maxLen; (try simp only [List.length_append, List.length_singleton]); omega) (by (try simp only [List.length_append, List.length_singleton]); omega) (Nat.le_trans HL_wb.out (Chg.alloc (S := fun _ => False) _ _).size) ?_)
        intro vc wc hown hg
        have HO_wc : Hid (wc.ownsRow (w.heap.size + 1) 45 3 vc (acc ++ [x]).length ((acc ++ [x]).flatMap encM)) := Lib.hid (by simpa [List.length_append, List.flatMap_append] using hown)
        have HS_wc := Lib.hid (still_grown (HS_wb.out.allocs (.cells #[.string x.k.1, .bool x.d, .string x.v.1] 45)) (own_still HO_wb.out (Chg.alloc _ _)) (Nat.le_succ _) hg)
        have HB_wc := Lib.hid (box_grown ((Chg.alloc (S := fun _ => False) wb (.cells #[.string x.k.1, .bool x.d, .string x.v.1] 45)).heap HB_wb.out id) (own_still HO_wb.out (Chg.alloc _ _)) hg)
        have HL_wc : Hid (w.heap.size + 1 ≤ wc.heap.size) := Lib.hid (Nat.le_trans (Nat.le_trans HL_wb.out (Chg.alloc (S := fun _ => False) _ _).size) hg.size)
        clear hown hg
        clear x0 x1 x2 m0 m1 m2
        have HF : Hid (PutI xs m (k + 1) true (acc ++ [x])) := Lib.hid (HF0.out)
        have hfl : (acc ++ [x]).length ≤ k + 1 + 1 := by (try simp only [List.length_append, List.length_singleton]); omega
        have HFL := Lib.hid hfl
        clear hfl
        go_wp2
        go_roundw
        case rel => exact ⟨k + 1, true, acc ++ [x], by omega, by go_num, rfl, HO_wc, HF, HFL.out, HB_wc, HL_wc, HS_wc.out⟩
        case measure => simp [nv]; omega
    · have hkl : xs.length ≤ k := by omega
      cases done with
      | false =>
        have HE := Lib.hid (HP.out.end_f hkl)
        have m0 := heap_cell (j := 0) HB.out rfl
        have m1 := heap_cell (j := 1) HB.out rfl
        have m2 := heap_cell (j := 2) HB.out rfl
        go_wp2_with (at_builtin; refine wpList_append_any (enc := encM) rfl _ _ 26 rfl (w.heap.size + 1) 45 i0 (.agg #[.string ⟨#[]⟩, .bool false, .string ⟨#[]⟩]) 3 40 under26_ HI.out hz0 hz1 hz2 rfl (by decide) lenM _ acc.length (acc.flatMap encM) rfl (own_still HO.out (Chg.alloc _ _)) (some ⟨wr.heap.size, 0, none⟩) 1 1 [m] rfl (one_sl lenM wr m 45 #[.string m.k.1, .bool m.d, .string m.v.1] rfl) (oneM _) (by unfold maxLen; (try simp only [List.length_append, List.length_singleton]); omega) (by (try simp only [List.length_append, List.length_singleton]); omega) (Nat.le_trans HL.out (Chg.alloc (S := fun _ => False) _ _).size) ?_)
        intro va wa hown hg
        have HO_wa : Hid (wa.ownsRow (w.heap.size + 1) 45 3 va (acc ++ [m]).length ((acc ++ [m]).flatMap encM)) := Lib.hid (by simpa [List.length_append, List.flatMap_append] using hown)
        have HS_wa := Lib.hid (still_grown (HS.out.allocs (.cells #[.string m.k.1, .bool m.d, .string m.v.1] 45)) (own_still HO.out (Chg.alloc _ _)) (Nat.le_succ _) hg)
        have HB_wa := Lib.hid (box_grown ((Chg.alloc (S := fun _ => False) wr (.cells #[.string m.k.1, .bool m.d, .string m.v.1] 45)).heap HB.out id) (own_still HO.out (Chg.alloc _ _)) hg)
        have HL_wa : Hid (w.heap.size + 1 ≤ wa.heap.size) := Lib.hid (Nat.le_trans (Nat.le_trans HL.out (Chg.alloc (S := fun _ => False) _ _).size) hg.size)
        clear hown hg
        clear m0 m1 m2
        go_wp2
        go_ret
        exact ⟨_, rfl, by rw [← HE.out]; exact own_slf lenM (by decide) HO_wa.out (Nat.le_succ _), HS_wa.out⟩
      | true =>
        have HE := Lib.hid (HP.out.end_t hkl)
        go_wp2
        go_ret
        exact ⟨_, rfl, by rw [← HE.out]; exact own_slf lenM (by decide) HO.out (Nat.le_succ _), HS.out⟩
end Go.Proofs.Ytekoibglogoaaaa
