/- The clone of a node, by its contract. -/
import Derived.Test.YtekoibglogoaaaaDa
import Derived.Deep.RegionHeld3
namespace Go.Proofs.Ytekoibglogoaaaa
open Go Go.RowKit Go.Shelf
set_option linter.unusedVariables false
set_option linter.unusedSimpArgs false

theorem keep5 {W0 w w' : World} {g : Nat} {l : Int} {v1 v2 v3 v4 : Value} (h : w.cell? ⟨g, 0, none⟩ = some (.int .i64 l) ∧ w.cell? ⟨g, 1, none⟩ = some v1 ∧ w.cell? ⟨g, 2, none⟩ = some v2 ∧ w.cell? ⟨g, 3, none⟩ = some v3 ∧ w.cell? ⟨g, 4, none⟩ = some v4 ∧ Still W0 w) (hs : Still w w') :
    w'.cell? ⟨g, 0, none⟩ = some (.int .i64 l) ∧ w'.cell? ⟨g, 1, none⟩ = some v1 ∧ w'.cell? ⟨g, 2, none⟩ = some v2 ∧ w'.cell? ⟨g, 3, none⟩ = some v3 ∧ w'.cell? ⟨g, 4, none⟩ = some v4 ∧ Still W0 w' := by
  obtain ⟨h0, h1, h2, h3, h4, h5⟩ := h
  exact ⟨hs.cell h0 id, hs.cell h1 id, hs.cell h2 id, hs.cell h3 id, hs.cell h4 id, h5.trans hs⟩
theorem set5 {w : World} (g : Nat) (u0 u1 u2 u3 u4 : Value) : Chg (fun i => i = g) w (((((w.setCell ⟨g, 0, none⟩ u0).setCell ⟨g, 1, none⟩ u1).setCell ⟨g, 2, none⟩ u2).setCell ⟨g, 3, none⟩ u3).setCell ⟨g, 4, none⟩ u4) :=
  by
  repeat (first | exact Chg.refl _ _ | refine Chg.trans ?_ (Chg.setCell _ _ _ rfl))
theorem set5_heap {w : World} {g : Nat} {c0 c1 c2 c3 c4 : Value} {t : TypeId} {fr : Nat × Nat} (h : w.heap[g]? = some (.cells #[c0, c1, c2, c3, c4] t fr)) (u0 u1 u2 u3 u4 : Value) :
    (((((w.setCell ⟨g, 0, none⟩ u0).setCell ⟨g, 1, none⟩ u1).setCell ⟨g, 2, none⟩ u2).setCell ⟨g, 3, none⟩ u3).setCell ⟨g, 4, none⟩ u4).heap[g]? = some (.cells #[u0, u1, u2, u3, u4] t fr) := by
  have := heap_set (j := 4) (heap_set (j := 3) (heap_set (j := 2) (heap_set (j := 1) (heap_set (j := 0) h u0) u1) u2) u3) u4
  simpa using this
theorem keepS5 {w w1 w2 : World} {l : Int} {v1 v2 v3 v4 : Value} (h : w1.cell? ⟨w.heap.size, 0, none⟩ = some (.int .i64 l) ∧ w1.cell? ⟨w.heap.size, 1, none⟩ = some v1 ∧ w1.cell? ⟨w.heap.size, 2, none⟩ = some v2 ∧ w1.cell? ⟨w.heap.size, 3, none⟩ = some v3 ∧ w1.cell? ⟨w.heap.size, 4, none⟩ = some v4 ∧ Still w w1) (hs : Chg (fun i => i = w.heap.size + 1) w1 w2) :
    w2.cell? ⟨w.heap.size, 0, none⟩ = some (.int .i64 l) ∧ w2.cell? ⟨w.heap.size, 1, none⟩ = some v1 ∧ w2.cell? ⟨w.heap.size, 2, none⟩ = some v2 ∧ w2.cell? ⟨w.heap.size, 3, none⟩ = some v3 ∧ w2.cell? ⟨w.heap.size, 4, none⟩ = some v4 ∧ Still w w2 := by
  obtain ⟨h0, h1, h2, h3, h4, h5⟩ := h
  have hn : ¬ w.heap.size = w.heap.size + 1 := by omega
  exact ⟨hs.cell h0 hn, hs.cell h1 hn, hs.cell h2 hn, hs.cell h3 hn, hs.cell h4 hn, h5.then hs (fun i hi => .inr (by subst hi; omega))⟩
/-- A slice that does not lie in a block. -/
theorem Sl.far {α : Type} {enc : α → List Value} {sz : Nat} {w w' : World} {A : Option Addr} {n c g : Nat} {xs : List α} (h : Sl enc sz w (.slice A n c) xs) (hc : Chg (fun i => i = g) w w') (hA : ∀ b off, 0 < n → A = some ⟨b, off, none⟩ → b ≠ g) : Sl enc sz w' (.slice A n c) xs :=
  h.chg hc (fun b off l c' e hl hS => by
    simp only [Value.slice.injEq] at e
    obtain ⟨rfl, rfl, rfl⟩ := e
    exact hA b off hl rfl hS)
/-- A slice of a block of the call's own that is not the block g. -/
def NotAt (A : Option Addr) (n g : Nat) : Prop := ∀ b off, 0 < n → A = some ⟨b, off, none⟩ → b ≠ g
theorem own_notAt {w : World} {B ty sz n g : Nat} {A : Option Addr} {m c : Nat} {xs : List Value} (h : w.ownsRow B ty sz (.slice A m c) n xs) (hg : g < B) : NotAt A m g := by
  intro b off _ e
  subst e
  have := (h.lt b rfl).1
  omega
/-- A node whose slices lie in blocks made since. -/
def NodeF (B : Nat) (w : World) (v : Value) (n : Nd) : Prop :=
  ∃ v1 v2 v3 v4, v = .agg #[.int .i64 n.lev, v1, v2, v3, v4] ∧ SlF B encU 1 w v1 n.kids ∧ SlF B encS 1 w v2 n.piv ∧ SlF B encM 3 w v3 n.buf ∧ SlF B encP 2 w v4 n.prs
def NodeP (n : Nd) (w : World) (e : Ending) (w' : World) : Prop := ∃ v', e = .returned v' ∧ NodeF w.heap.size w' v' n ∧ Still w w'
structure SmallN (n : Nd) : Prop where
  kids : n.kids.length ≤ 1000000
  piv : n.piv.length ≤ 1000000
  buf : n.buf.length ≤ 1000000
  prs : n.prs.length ≤ 1000000
set_option maxRecDepth 100000 in
set_option maxHeartbeats 4000000 in
theorem nclone {w : World} {v : Value} {n : Nd} (h : NodeV w v n) (hn : SmallN n) : Calls Try.prog 15 #[v] w (NodeP n w) := by
  obtain ⟨v1, v2, v3, v4, rfl, h1, h2, h3, h4⟩ := h
  obtain ⟨n1, n2, n3, n4⟩ := hn
  have K1 : Hid (∀ w', Still w w' → Calls Try.prog 38 #[v1] w' (CloneP encU 1 43 n.kids w')) := Lib.hid (fun w' hs => clone38 (h1.still hs) n1)
  have K2 : Hid (∀ w', Still w w' → Calls Try.prog 39 #[v2] w' (CloneP encS 1 9 n.piv w')) := Lib.hid (fun w' hs => clone39 (h2.still hs) n2)
  have K3 : Hid (∀ w', Still w w' → Calls Try.prog 40 #[v3] w' (CloneP encM 3 45 n.buf w')) := Lib.hid (fun w' hs => clone40 (h3.still hs) n3)
  have K4 : Hid (∀ w', Still w w' → Calls Try.prog 41 #[v4] w' (CloneP encP 2 47 n.prs w')) := Lib.hid (fun w' hs => clone41 (h4.still hs) n4)
  clear h1 h2 h3 h4 n1 n2 n3 n4
  have HC := Lib.hid (Cells5.new w n.lev v1 v2 v3 v4)
  have HZ : Hid (∀ z, (((w.alloc (.cells #[.int .i64 n.lev, v1, v2, v3, v4] 29)).alloc z)).heap[w.heap.size + 1]? = some z) := Lib.hid (fun z => by
    have := heap_alloc_new (w.alloc (.cells #[.int .i64 n.lev, v1, v2, v3, v4] 29)) z
    rwa [size_al] at this)
  have HZL : Hid (∀ z, w.heap.size + 1 < (((w.alloc (.cells #[.int .i64 n.lev, v1, v2, v3, v4] 29)).alloc z)).heap.size) := Lib.hid (fun z => heap_lt (HZ.out z))
  go_enter Try.func15, Try.ntmps15
  go_wp2_with fail
  refine wp_region_held_drew (S := fun w' => w'.cell? ⟨w.heap.size, 0, none⟩ = some (.int .i64 n.lev) ∧ w'.cell? ⟨w.heap.size, 1, none⟩ = some v1 ∧ w'.cell? ⟨w.heap.size, 2, none⟩ = some v2 ∧ w'.cell? ⟨w.heap.size, 3, none⟩ = some v3 ∧ w'.cell? ⟨w.heap.size, 4, none⟩ = some v4 ∧ Still w w') (by kernel_rfl) ?h0 (fun hHeld => ?_)
  case h0 =>
    obtain ⟨c0, c1, c2, c3, c4⟩ := HC.out.still ((Chg.alloc _ _).trans (Chg.drew (S := fun _ => False) _))
    exact ⟨c0, c1, c2, c3, c4, ((Chg.alloc w _).allocs _).trans (Chg.drew _)⟩
  refine wpAnyH_take (i := 0) (oi := { dst := some 3, op := _, type := _, pos := _, after := _, guard := _ }) (v := ?_) rfl (by kernel_rfl) (by kernel_rfl) (by kernel_rfl) (fun _ _ _ h => h) (Or.inl ⟨by rfl, ?_⟩) (by assumption) ?_
  case refine_2 => intro w hSw; (try dsimp only at hSw); go_simp; all_goals (with_reducible rfl)
  try simp only [Act.put, List.setIfInBounds_toArray, List.set_cons_zero, List.set_cons_succ]
  refine wpAnyH_take (i := 1) (oi := { dst := some 4, op := _, type := _, pos := _, after := _, guard := _ }) (v := ?_) rfl (by kernel_rfl) (by kernel_rfl) (by kernel_rfl) (fun _ _ _ h => h) (Or.inl ⟨by rfl, ?_⟩) (by assumption) ?_
  case refine_2 => intro w hSw; (try dsimp only at hSw); go_simp; all_goals (with_reducible rfl)
  try simp only [Act.put, List.setIfInBounds_toArray, List.set_cons_zero, List.set_cons_succ]
  refine wpAnyH_take (i := 2) (oi := { dst := some 5, op := _, type := _, pos := _, after := _, guard := _ }) (v := ?_) rfl (by kernel_rfl) (by kernel_rfl) (by kernel_rfl) (fun _ _ _ h => h) (Or.inl ⟨by rfl, ?_⟩) (by assumption) ?_
  case refine_2 => intro w hSw; (try dsimp only at hSw); go_simp; all_goals (with_reducible rfl)
  try simp only [Act.put, List.setIfInBounds_toArray, List.set_cons_zero, List.set_cons_succ]
  refine wpAnyH_take (i := 3) (oi := { dst := some 6, op := _, type := _, pos := _, after := _, guard := _ }) (v := ?_) rfl (by kernel_rfl) (by kernel_rfl) (by kernel_rfl) (fun _ _ _ h => h) (Or.inl ⟨by rfl, ?_⟩) (by assumption) ?_
  case refine_2 => intro w hSw; (try dsimp only at hSw); go_simp; all_goals (with_reducible rfl)
  try simp only [Act.put, List.setIfInBounds_toArray, List.set_cons_zero, List.set_cons_succ]
  refine wpAnyH_take (i := 5) (oi := { dst := some 8, op := _, type := _, pos := _, after := _, guard := _ }) (v := ?_) rfl (by kernel_rfl) (by kernel_rfl) (by kernel_rfl) (fun _ _ _ h => h) (Or.inl ⟨by rfl, ?_⟩) (by assumption) ?_
  case refine_2 => intro w hSw; (try dsimp only at hSw); go_simp; all_goals (with_reducible rfl)
  try simp only [Act.put, List.setIfInBounds_toArray, List.set_cons_zero, List.set_cons_succ]
  refine wpAnyH_take (i := 6) (oi := { dst := some 9, op := _, type := _, pos := _, after := _, guard := _ }) (v := ?_) rfl (by kernel_rfl) (by kernel_rfl) (by kernel_rfl) (fun _ _ _ h => h) (Or.inl ⟨by rfl, ?_⟩) (by assumption) ?_
  case refine_2 => intro w hSw; (try dsimp only at hSw); go_simp; all_goals (with_reducible rfl)
  try simp only [Act.put, List.setIfInBounds_toArray, List.set_cons_zero, List.set_cons_succ]
  refine wpAnyH_take (i := 8) (oi := { dst := some 11, op := _, type := _, pos := _, after := _, guard := _ }) (v := ?_) rfl (by kernel_rfl) (by kernel_rfl) (by kernel_rfl) (fun _ _ _ h => h) (Or.inl ⟨by rfl, ?_⟩) (by assumption) ?_
  case refine_2 => intro w hSw; (try dsimp only at hSw); go_simp; all_goals (with_reducible rfl)
  try simp only [Act.put, List.setIfInBounds_toArray, List.set_cons_zero, List.set_cons_succ]
  refine wpAnyH_take (i := 9) (oi := { dst := some 12, op := _, type := _, pos := _, after := _, guard := _ }) (v := ?_) rfl (by kernel_rfl) (by kernel_rfl) (by kernel_rfl) (fun _ _ _ h => h) (Or.inl ⟨by rfl, ?_⟩) (by assumption) ?_
  case refine_2 => intro w hSw; (try dsimp only at hSw); go_simp; all_goals (with_reducible rfl)
  try simp only [Act.put, List.setIfInBounds_toArray, List.set_cons_zero, List.set_cons_succ]
  refine wpAnyH_take (i := 11) (oi := { dst := some 14, op := _, type := _, pos := _, after := _, guard := _ }) (v := ?_) rfl (by kernel_rfl) (by kernel_rfl) (by kernel_rfl) (fun _ _ _ h => h) (Or.inl ⟨by rfl, ?_⟩) (by assumption) ?_
  case refine_2 => intro w hSw; (try dsimp only at hSw); go_simp; all_goals (with_reducible rfl)
  try simp only [Act.put, List.setIfInBounds_toArray, List.set_cons_zero, List.set_cons_succ]
  refine wpAnyH_take (i := 12) (oi := { dst := some 15, op := _, type := _, pos := _, after := _, guard := _ }) (v := ?_) rfl (by kernel_rfl) (by kernel_rfl) (by kernel_rfl) (fun _ _ _ h => h) (Or.inl ⟨by rfl, ?_⟩) (by assumption) ?_
  case refine_2 => intro w hSw; (try dsimp only at hSw); go_simp; all_goals (with_reducible rfl)
  try simp only [Act.put, List.setIfInBounds_toArray, List.set_cons_zero, List.set_cons_succ]
  refine wpAnyH_ready (rs := [4]) (by kernel_rfl) (by simp) ?_
  refine AllReadyH.cons (o := _) rfl (fun K hK => ?_) AllReadyH.nil
  go_simp
  refine (K1.out _ hHeld.2.2.2.2.2).mono ?_
  rintro e w1 ⟨u1, rfl, ho1, hs⟩
  go_wp2_with fail
  refine hK.out _ _ (keep5 hHeld hs) (fun hHeld => ?_)
  clear hK K
  have S1 := Lib.hid (own_sl lenU (by decide) ho1)
  obtain ⟨A1, d1, rfl, e1, e1'⟩ := S1.out.form
  have NA1 : Hid (NotAt A1 _ (w.heap.size + 1)) := Lib.hid (own_notAt ho1 (HZL.out _))
  have FV1 : Hid (FarV w.heap.size _) := Lib.hid (own_far ho1 (Nat.le_of_lt (Nat.lt_of_succ_lt (HZL.out _))))
  clear ho1
  have HZ1 := Lib.hid (((Chg.drew (S := fun _ => False) _).trans hs).heap (HZ.out _) id)
  clear hs
  try simp only [Act.put, List.setIfInBounds_toArray, List.set_cons_zero, List.set_cons_succ]
  refine wpAnyH_ready (rs := [7]) (by kernel_rfl) (by simp) ?_
  refine AllReadyH.cons (o := _) rfl (fun K hK => ?_) AllReadyH.nil
  go_simp
  refine (K2.out _ hHeld.2.2.2.2.2).mono ?_
  rintro e w2 ⟨u2, rfl, ho2, hs⟩
  go_wp2_with fail
  refine hK.out _ _ (keep5 hHeld hs) (fun hHeld => ?_)
  clear hK K
  have S2 := Lib.hid (own_sl lenS (by decide) ho2)
  obtain ⟨A2, d2, rfl, e2, e2'⟩ := S2.out.form
  have NA2 : Hid (NotAt A2 _ (w.heap.size + 1)) := Lib.hid (own_notAt ho2 (heap_lt HZ1.out))
  have FV2 : Hid (FarV w.heap.size _) := Lib.hid (own_far ho2 (Nat.le_of_lt (Nat.lt_of_succ_lt (heap_lt HZ1.out))))
  clear ho2
  have S1 := Lib.hid (S1.out.still hs)
  have HZ2 := Lib.hid (hs.heap HZ1.out id)
  clear HZ1
  clear hs
  try simp only [Act.put, List.setIfInBounds_toArray, List.set_cons_zero, List.set_cons_succ]
  refine wpAnyH_ready (rs := [10]) (by kernel_rfl) (by simp) ?_
  refine AllReadyH.cons (o := _) rfl (fun K hK => ?_) AllReadyH.nil
  go_simp
  refine (K3.out _ hHeld.2.2.2.2.2).mono ?_
  rintro e w3 ⟨u3, rfl, ho3, hs⟩
  go_wp2_with fail
  refine hK.out _ _ (keep5 hHeld hs) (fun hHeld => ?_)
  clear hK K
  have S3 := Lib.hid (own_sl lenM (by decide) ho3)
  obtain ⟨A3, d3, rfl, e3, e3'⟩ := S3.out.form
  have NA3 : Hid (NotAt A3 _ (w.heap.size + 1)) := Lib.hid (own_notAt ho3 (heap_lt HZ2.out))
  have FV3 : Hid (FarV w.heap.size _) := Lib.hid (own_far ho3 (Nat.le_of_lt (Nat.lt_of_succ_lt (heap_lt HZ2.out))))
  clear ho3
  have S1 := Lib.hid (S1.out.still hs)
  have S2 := Lib.hid (S2.out.still hs)
  have HZ3 := Lib.hid (hs.heap HZ2.out id)
  clear HZ2
  clear hs
  try simp only [Act.put, List.setIfInBounds_toArray, List.set_cons_zero, List.set_cons_succ]
  refine wpAnyH_ready (rs := [13]) (by kernel_rfl) (by simp) ?_
  refine AllReadyH.cons (o := _) rfl (fun K hK => ?_) AllReadyH.nil
  go_simp
  refine (K4.out _ hHeld.2.2.2.2.2).mono ?_
  rintro e w4 ⟨u4, rfl, ho4, hs⟩
  go_wp2_with fail
  refine hK.out _ _ (keep5 hHeld hs) (fun hHeld => ?_)
  clear hK K
  have S4 := Lib.hid (own_sl lenP (by decide) ho4)
  obtain ⟨A4, d4, rfl, e4, e4'⟩ := S4.out.form
  have NA4 : Hid (NotAt A4 _ (w.heap.size + 1)) := Lib.hid (own_notAt ho4 (heap_lt HZ3.out))
  have FV4 : Hid (FarV w.heap.size _) := Lib.hid (own_far ho4 (Nat.le_of_lt (Nat.lt_of_succ_lt (heap_lt HZ3.out))))
  clear ho4
  have S1 := Lib.hid (S1.out.still hs)
  have S2 := Lib.hid (S2.out.still hs)
  have S3 := Lib.hid (S3.out.still hs)
  have HZ4 := Lib.hid (hs.heap HZ3.out id)
  clear HZ3
  clear hs
  try simp only [Act.put, List.setIfInBounds_toArray, List.set_cons_zero, List.set_cons_succ]
  refine wpAnyH_take (i := 14) (oi := { dst := some 17, op := _, type := _, pos := _, after := _, guard := _ }) (v := ?_) rfl (by kernel_rfl) (by kernel_rfl) (by kernel_rfl) (fun _ _ _ h => h) (Or.inl ⟨by rfl, ?_⟩) (by assumption) ?_
  case refine_2 => intro w hSw; (try dsimp only at hSw); go_simp; all_goals (with_reducible rfl)
  try simp only [Act.put, List.setIfInBounds_toArray, List.set_cons_zero, List.set_cons_succ]
  have g0 := heap_cell (j := 0) HZ4.out rfl
  have g1 := heap_cell (j := 1) HZ4.out rfl
  have g2 := heap_cell (j := 2) HZ4.out rfl
  have g3 := heap_cell (j := 3) HZ4.out rfl
  have g4 := heap_cell (j := 4) HZ4.out rfl
  have f0 := heap_free (j := 0) HZ4.out
  have f1 := heap_free (j := 1) HZ4.out
  have f2 := heap_free (j := 2) HZ4.out
  have f3 := heap_free (j := 3) HZ4.out
  have f4 := heap_free (j := 4) HZ4.out
  have HH := Lib.hid hHeld
  clear hHeld
  refine wpAnyH_ready (rs := [15]) (by kernel_rfl) (by simp) ?_
  refine AllReadyH.cons (o := _) rfl (fun K hK => ?_) AllReadyH.nil
  go_simp
  refine hK.out _ _ (keepS5 HH.out (set5 _ _ _ _ _ _)) (fun hHeld => ?_)
  clear hK K
  refine wpAnyH_done (by kernel_rfl) ?_ _
  have hz5 := set5_heap HZ4.out (.int .i64 n.lev) (.slice A1 n.kids.length d1) (.slice A2 n.piv.length d2) (.slice A3 n.buf.length d3) (.slice A4 n.prs.length d4)
  have HC5 := Lib.hid (set5 (w := w4) (w.heap.size + 1) (.int .i64 n.lev) (.slice A1 n.kids.length d1) (.slice A2 n.piv.length d2) (.slice A3 n.buf.length d3) (.slice A4 n.prs.length d4))
  have HS5 := Lib.hid hHeld.2.2.2.2.2
  clear hHeld g0 g1 g2 g3 g4 f0 f1 f2 f3 f4
  have g0 := heap_cell (j := 0) hz5 rfl
  have g1 := heap_cell (j := 1) hz5 rfl
  have g2 := heap_cell (j := 2) hz5 rfl
  have g3 := heap_cell (j := 3) hz5 rfl
  have g4 := heap_cell (j := 4) hz5 rfl
  clear hz5
  generalize ((((w4.setCell ⟨w.heap.size + 1, 0, none⟩ (.int .i64 n.lev)).setCell ⟨w.heap.size + 1, 1, none⟩ (.slice A1 n.kids.length d1)).setCell ⟨w.heap.size + 1, 2, none⟩ (.slice A2 n.piv.length d2)).setCell ⟨w.heap.size + 1, 3, none⟩ (.slice A3 n.buf.length d3)).setCell ⟨w.heap.size + 1, 4, none⟩ (.slice A4 n.prs.length d4) = w5 at *
  go_wp2
  refine bodyPost_ret (v := .agg #[.int .i64 n.lev, .slice A1 n.kids.length d1, .slice A2 n.piv.length d2, .slice A3 n.buf.length d3, .slice A4 n.prs.length d4]) (by simp [results, Try.results15, go_sem, *]) rfl ?_
  exact ⟨_, rfl, ⟨_, _, _, _, rfl, ⟨S1.out.far HC5.out NA1.out, FV1.out⟩, ⟨S2.out.far HC5.out NA2.out, FV2.out⟩, ⟨S3.out.far HC5.out NA3.out, FV3.out⟩, ⟨S4.out.far HC5.out NA4.out, FV4.out⟩⟩, HS5.out⟩
end Go.Proofs.Ytekoibglogoaaaa
