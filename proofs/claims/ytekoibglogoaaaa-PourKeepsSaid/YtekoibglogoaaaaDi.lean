/- Laying a pair into a row of the call's own. -/
import Derived.Test.YtekoibglogoaaaaDh
import Derived.Lib.Overlaps
namespace Go.Proofs.Ytekoibglogoaaaa
open Go Go.RowKit Go.Shelf
set_option linter.unusedVariables false
set_option linter.unusedSimpArgs false

theorem over_app (T R : List Value) (k : Nat) (cs : List Value) : over (T ++ R) (T.length + k) cs = T ++ over R k cs := by
  unfold over
  rw [List.take_append, List.take_of_length_le (by omega), Nat.add_sub_cancel_left, Nat.add_assoc, List.drop_append, List.drop_eq_nil_of_le (by omega), Nat.add_sub_cancel_left, List.nil_append, List.append_assoc]
theorem over_zero (R cs : List Value) : over R 0 cs = cs ++ R.drop cs.length := by unfold over; simp
theorem over_room (T R D X : List Value) (hX : X.length = 2) (h : 2 + D.length ≤ R.length) : over (over (T ++ R) (T.length + 2) D) T.length X = T ++ (X ++ (D ++ R.drop (2 + D.length))) := by
  rw [over_app]
  have e := over_app T (over R 2 D) 0 X
  rw [Nat.add_zero] at e
  rw [e, over_zero, hX]
  congr 2
  unfold over
  rw [List.drop_append, List.drop_eq_nil_of_le (by rw [List.length_take]; omega), List.nil_append, List.length_take, Nat.min_eq_left (by omega), Nat.sub_self, List.drop_zero]
theorem over_new (T Z D X : List Value) (hX : X.length = 2) : over (over (T ++ Z) T.length X) (T.length + 2) D = T ++ (X ++ (D ++ Z.drop (2 + D.length))) := by
  have e := over_app T Z 0 X
  rw [Nat.add_zero] at e
  rw [e, over_zero, hX, ← List.append_assoc]
  have e2 := over_app (T ++ X) (Z.drop 2) 0 D
  rw [Nat.add_zero, List.length_append, hX] at e2
  rw [e2, over_zero, List.append_assoc, List.drop_drop]
def insL {α : Type} (xs : List α) (i : Nat) (x : α) : List α := xs.take i ++ (x :: xs.drop i)
theorem insL_len {α : Type} (xs : List α) (i : Nat) (x : α) (h : i ≤ xs.length) : (insL xs i x).length = xs.length + 1 := by unfold insL; simp; omega
theorem insL_flat (xs : List Pr) (i : Nat) (x : Pr) : (insL xs i x).flatMap encP = (xs.take i).flatMap encP ++ (encP x ++ (xs.drop i).flatMap encP) := by
  unfold insL; rw [List.flatMap_append, List.flatMap_cons]
def InsP (B i : Nat) (x : Pr) (xs : List Pr) (w : World) (e : Ending) (w' : World) : Prop :=
  ∃ v', e = .returned v' ∧ w'.ownsRow B 47 2 v' (insL xs i x).length ((insL xs i x).flatMap encP) ∧ Chg (fun k => B ≤ k) w w'

set_option maxRecDepth 100000 in
set_option maxHeartbeats 1000000 in
theorem insA {w : World} {B b : Nat} {v : Value} {xs : List Pr} {x : Pr} (ho : w.ownsRow B 47 2 v xs.length (xs.flatMap encP)) (hx : Sl encP 2 w (.slice (some ⟨b, 0, none⟩) 1 1) [x]) (hn : xs.length ≤ 1000000) (hB : B ≤ w.heap.size) :
    Calls Try.prog 48 #[v, .int .i64 (xs.length : Nat), .slice (some ⟨b, 0, none⟩) 1 1] w (InsP B xs.length x xs w) := by
  have HO := Lib.hid ho
  have HXS := Lib.hid hx
  have hv := own_split ho
  obtain ⟨i0, hi0, hz0, hz1, hz2⟩ := info47_
  have HI0 := Lib.hid hi0
  have hcap : ∀ g cap, v = .slice (some ⟨g, 0, none⟩) xs.length cap → xs.length ≤ cap ∧ cap ≤ 9223372036854775807 := fun g cap e => by
    subst e
    obtain ⟨-, -, h1, h2, -⟩ := own_row ho
    exact ⟨h1, h2⟩
  clear hx ho hi0
  rcases hv with ⟨rfl, h0⟩ | ⟨g, cap, rfl⟩
  · obtain rfl : xs = [] := List.eq_nil_of_length_eq_zero h0
    clear hcap h0
    go_enter Try.func48, Try.ntmps48
    go_wp2_with (at_builtin; refine wpList_append_any (enc := encP) rfl _ _ 27 rfl B 47 i0 (.agg #[.string ⟨#[]⟩, .string ⟨#[]⟩]) 2 32 under27_ HI0.out hz0 hz1 hz2 rfl (by decide) lenP _ 0 [] rfl HO.out (some ⟨b, 0, none⟩) 1 1 [x] rfl HXS.out (oneP _) (by unfold maxLen; simp) (by simp) hB ?_)
    intro v' w2 hown hg
    have HS2 := Lib.hid ((Chg.refl (fun k => B ≤ k) w).grown hg (fun k hk => .inl (HO.out.lt k hk).1))
    have HO2 : Hid (w2.ownsRow B 47 2 v' (insL [] 0 x).length ((insL [] 0 x).flatMap encP)) := Lib.hid (by simpa [insL] using hown)
    clear hown hg
    go_wp2
    go_ret
    exact ⟨_, rfl, HO2.out, HS2.out⟩
  · obtain ⟨hc1, hc2⟩ := hcap g cap rfl
    clear hcap
    have b1 : (xs.length : Int) ≤ (cap : Int) := by omega
    go_enter Try.func48, Try.ntmps48
    go_wp2_with (at_builtin; refine wpList_append_any (enc := encP) rfl _ _ 27 rfl B 47 i0 (.agg #[.string ⟨#[]⟩, .string ⟨#[]⟩]) 2 32 under27_ HI0.out hz0 hz1 hz2 rfl (by decide) lenP _ xs.length (xs.flatMap encP) rfl HO.out (some ⟨b, 0, none⟩) 1 1 [x] rfl HXS.out (oneP _) (by unfold maxLen; rw [List.length_singleton]; omega) (by rw [List.length_singleton]; omega) hB ?_)
    all_goals
      intro v' w2 hown hg
      have HS2 := Lib.hid ((Chg.refl (fun k => B ≤ k) w).grown hg (fun k hk => .inl (HO.out.lt k hk).1))
      have HO2 : Hid (w2.ownsRow B 47 2 v' (insL xs xs.length x).length ((insL xs xs.length x).flatMap encP)) := Lib.hid (by
        rw [insL_len _ _ _ (Nat.le_refl _), insL_flat, List.take_length, List.drop_length]
        simpa using hown)
      clear hown hg
      go_wp2
      go_ret
      exact ⟨_, rfl, HO2.out, HS2.out⟩

set_option maxRecDepth 100000 in
set_option maxHeartbeats 1000000 in
theorem insC {w : World} {B b g cap i : Nat} {xs : List Pr} {x : Pr} (ho : w.ownsRow B 47 2 (.slice (some ⟨g, 0, none⟩) xs.length cap) xs.length (xs.flatMap encP)) (hx : RowAt w b 47 [.string x.k.1, .string x.v.1]) (hbg : b ≠ g) (hi : i < xs.length) (hroom : xs.length < cap) (hn : xs.length ≤ 1000000) :
    Calls Try.prog 48 #[.slice (some ⟨g, 0, none⟩) xs.length cap, .int .i64 (i : Nat), .slice (some ⟨b, 0, none⟩) 1 1] w (InsP B i x xs w) := by
  obtain ⟨-, hB, hcap, hmax, tl, hrow, hcl, hxl⟩ := own_row ho
  have hc2 : cap ≤ 9223372036854775807 := hmax
  obtain ⟨i0, hi0, hz0, hz1, hz2⟩ := info47_
  have HI0 := Lib.hid hi0
  have HROW := Lib.hid hrow
  have HXR := Lib.hid hx
  have HL := Lib.hid (And.intro hcl hxl)
  have hsz : ∀ w, (Go.sizeOf 47).run Try.prog w = .ok 2 w := fun w => by simp [sizeOf, typeInfo, hi0, hz1]
  have hov : ∀ (a lb cb : Nat), (callFunc 61 #[.slice (some ⟨b, 0, none⟩) 1 1, .slice (some ⟨g, a, none⟩) lb cb]).run Try.prog w = .ok (.value (.bool false)) w := fun a lb cb => by
    rw [run_callFunc_extern Try.func61 (by kernel_rfl) (by kernel_rfl) (by kernel_rfl) (e := Extern.SlicesOverlaps.overlaps #[27, 27] #[4]) (by kernel_rfl), Lib.run_overlaps_apart (P := Try.prog) w 27 4 47 under27_ 2 hsz ⟨b, 0, none⟩ ⟨g, a, none⟩ 1 1 lb cb hbg 47 47 2 (xs.flatMap encP ++ tl).length ?_ ?_ ?_ ?_ ?_]
    · rfl
    · unfold World.shape?; simp [show w.heap[b]? = _ from hx]
    · unfold World.shape?; simp [show w.heap[g]? = _ from hrow]
    · rw [hcl]; omega
    · exact heap_free hx
    · exact heap_free hx
  have b1 : (i : Int) ≤ (xs.length : Int) := by omega
  have b2 : (xs.length : Int) ≤ (cap : Int) := by omega
  have b3 : (0 : Int) ≤ (i : Int) + 1 := by omega
  have b4 : (i : Int) + 1 ≤ (xs.length : Int) + 1 := by omega
  have b5 : (xs.length : Int) + 1 ≤ (cap : Int) := by omega
  have b6 : xs.length + 1 ≤ cap := by omega
  have b7 : i ≤ cap := by omega
  have b8 : ¬ i = xs.length := by omega
  have b9 : ((i : Int) == (xs.length : Int)) = false := beq_eq_false_iff_ne.2 (by omega)
  have bb : i ≤ xs.length := by omega
  have bc : i + 1 ≤ xs.length + 1 := by omega
  have bd : ¬ cap = i := by omega
  have be : ¬ cap = i + 1 := by omega
  have hw1 : IntKind.i64.wrap ((i : Int) + 1) = (i : Int) + 1 := by rw [IntKind.wrap_i64]; omega
  have bf : (i : Int) ≤ (xs.length : Int) + 1 := by omega
  have htn : ((i : Int) + 1).toNat = i + 1 := by omega
  clear ho hi0 hx hrow hcl hxl
  go_enter Try.func48, Try.ntmps48
  have HS := Lib.hid hsz
  have hmin1 : Nat.min (xs.length + 1 - i) (xs.length + 1 - (i + 1)) = xs.length - i := by simp only [Nat.min_def]; split <;> omega
  obtain ⟨D, hD⟩ : ∃ D, D = (xs.drop i).flatMap encP := ⟨_, rfl⟩
  have hDl : D.length = (xs.length - i) * 2 := by rw [hD, flat_len lenP, List.length_drop]
  have hDone := Lib.hid (show ∀ u ∈ D, u.oneCell' = true by rw [hD]; exact oneP _)
  have hDsrc : Hid (∀ t u, D[t]? = some u → w.drew.cell? ((⟨g, i * 2, none⟩ : Addr).add t) = some u) := Lib.hid (fun t u hu => by
    rw [Addr.add_lit]
    refine RowAt.cell (w := w.drew) HROW.out _ _ ?_
    rw [hD, ← flat_drop lenP _ _ bb, List.getElem?_drop] at hu
    rw [List.getElem?_append_left (List.getElem?_eq_some_iff.1 hu).1]
    exact hu)
  have HDD := Lib.hid (And.intro hD hDl)
  clear hD hDl hsz
  go_wp2_with (simp only [hov])
  refine wp_region_held_drew (S := fun w' => Chg (fun k => k = g) w w') (by kernel_rfl) (Chg.drew _) (fun hHeld => ?_)
  refine wpAnyH_take (i := 0) (oi := { dst := some 69, op := _, type := _, pos := _, after := _, guard := _ }) (v := ?_) rfl (by kernel_rfl) (by kernel_rfl) (by kernel_rfl) (fun _ _ _ h => h) (Or.inl ⟨by rfl, ?_⟩) (by assumption) ?_
  case refine_2 => intro w hSw; (try dsimp only at hSw); go_simp; all_goals (with_reducible rfl)
  try simp only [Act.put, List.setIfInBounds_toArray, List.set_cons_zero, List.set_cons_succ]
  refine wpAnyH_take (i := 1) (oi := { dst := some 70, op := _, type := _, pos := _, after := _, guard := _ }) (v := ?_) rfl (by kernel_rfl) (by kernel_rfl) (by kernel_rfl) (fun _ _ _ h => h) (Or.inl ⟨by rfl, ?_⟩) (by assumption) ?_
  case refine_2 => intro w hSw; (try dsimp only at hSw); go_simp; all_goals (with_reducible rfl)
  try simp only [Act.put, List.setIfInBounds_toArray, List.set_cons_zero, List.set_cons_succ]
  refine wpAnyH_take (i := 2) (oi := { dst := some 71, op := _, type := _, pos := _, after := _, guard := _ }) (v := ?_) rfl (by kernel_rfl) (by kernel_rfl) (by kernel_rfl) (fun _ _ _ h => h) (Or.inl ⟨by rfl, ?_⟩) (by assumption) ?_
  case refine_2 => intro w hSw; (try dsimp only at hSw); go_simp; all_goals (with_reducible rfl)
  try simp only [Act.put, List.setIfInBounds_toArray, List.set_cons_zero, List.set_cons_succ]
  refine wpAnyH_take (i := 3) (oi := { dst := some 72, op := _, type := _, pos := _, after := _, guard := _ }) (v := ?_) rfl (by kernel_rfl) (by kernel_rfl) (by kernel_rfl) (fun _ _ _ h => h) (Or.inl ⟨by rfl, ?_⟩) (by assumption) ?_
  case refine_2 => intro w hSw; (try dsimp only at hSw); go_simp; all_goals (with_reducible rfl)
  try simp only [Act.put, List.setIfInBounds_toArray, List.set_cons_zero, List.set_cons_succ]
  refine wpAnyH_take (i := 4) (oi := { dst := some 73, op := _, type := _, pos := _, after := _, guard := _ }) (v := ?_) rfl (by kernel_rfl) (by kernel_rfl) (by kernel_rfl) (fun _ _ _ h => h) (Or.inl ⟨by rfl, ?_⟩) (by assumption) ?_
  case refine_2 => intro w hSw; (try dsimp only at hSw); go_simp; all_goals (with_reducible rfl)
  try simp only [Act.put, List.setIfInBounds_toArray, List.set_cons_zero, List.set_cons_succ]
  refine wpAnyH_take (i := 5) (oi := { dst := some 74, op := _, type := _, pos := _, after := _, guard := _ }) (v := ?_) rfl (by kernel_rfl) (by kernel_rfl) (by kernel_rfl) (fun _ _ _ h => h) (Or.inl ⟨by rfl, ?_⟩) (by assumption) ?_
  case refine_2 => intro w hSw; (try dsimp only at hSw); go_simp; all_goals (with_reducible rfl)
  try simp only [Act.put, List.setIfInBounds_toArray, List.set_cons_zero, List.set_cons_succ]
  refine wpAnyH_take (i := 6) (oi := { dst := some 75, op := _, type := _, pos := _, after := _, guard := _ }) (v := ?_) rfl (by kernel_rfl) (by kernel_rfl) (by kernel_rfl) (fun _ _ _ h => h) (Or.inl ⟨by rfl, ?_⟩) (by assumption) ?_
  case refine_2 => intro w hSw; (try dsimp only at hSw); go_simp; all_goals (with_reducible rfl)
  try simp only [Act.put, List.setIfInBounds_toArray, List.set_cons_zero, List.set_cons_succ]
  refine wpAnyH_take (i := 7) (oi := { dst := some 76, op := _, type := _, pos := _, after := _, guard := _ }) (v := ?_) rfl (by kernel_rfl) (by kernel_rfl) (by kernel_rfl) (fun _ _ _ h => h) (Or.inl ⟨by rfl, ?_⟩) (by assumption) ?_
  case refine_2 => intro w hSw; (try dsimp only at hSw); go_simp; all_goals (with_reducible rfl)
  try simp only [Act.put, List.setIfInBounds_toArray, List.set_cons_zero, List.set_cons_succ]
  refine wpAnyH_ready (rs := [8]) (by kernel_rfl) (by simp) ?_
  refine AllReadyH.cons (o := { dst := some 77, op := _, type := _, pos := _, after := _, guard := _ }) rfl (fun K hK => ?_) AllReadyH.nil
  refine step_copy_rowN rfl (.tmp 73) (.tmp 76) 27 27 rfl 47 i0 2 under27_ HI0.out hz1 g ((i + 1) * 2) (xs.length + 1 - (i + 1)) (cap - (i + 1)) ⟨g, i * 2, none⟩ (xs.length + 1 - i) (cap - i) (by simp [Act.eval]) (by simp [Act.eval]) 47 _ D HROW.out (by rw [hmin1]; exact HDD.out.2) hDsrc.out (by rw [HDD.out.2, HL.out.1]; omega) hDone.out ?_
  intro w1 v1 HR1 hc1
  refine hK.out _ _ (hHeld.trans hc1) (fun hHeld => ?_)
  clear hK K
  try simp only [Act.put, List.setIfInBounds_toArray, List.set_cons_zero, List.set_cons_succ]
  refine wpAnyH_done (by kernel_rfl) ?_ _
  have HC1 := Lib.hid hHeld
  have HXR1 := Lib.hid (show RowAt w1 b 47 [.string x.k.1, .string x.v.1] from HC1.out.heap HXR.out hbg)
  clear hHeld hc1 hDsrc hov
  have hmin2 : Nat.min 1 (xs.length + 1 - i) = 1 := by simp only [Nat.min_def]; split <;> omega
  have hfit2 : i * 2 + [Value.string x.k.1, Value.string x.v.1].length ≤ (over (xs.flatMap encP ++ tl) ((i + 1) * 2) D).length := by
    rw [over_len _ _ _ (by rw [HDD.out.2, HL.out.1]; omega), HL.out.1]; simp only [List.length_cons, List.length_nil]; omega
  obtain ⟨w2, hw2⟩ : ∃ w2, w2 = w1.setRow g (over (over (xs.flatMap encP ++ tl) ((i + 1) * 2) D) (i * 2) [.string x.k.1, .string x.v.1]).toArray := ⟨_, rfl⟩
  have hcp : ∀ ty, (Builtin.copy_ #[27, 27] ty #[.slice (some ⟨g, i * 2, none⟩) (xs.length + 1 - i) (cap - i), .slice (some ⟨b, 0, none⟩) 1 1]).run Try.prog w1 = .ok (goInt 1) w2 := fun ty => by
    rw [hw2]
    have := run_copy_rowN (P := Try.prog) 27 27 ty 47 g (i * 2) (xs.length + 1 - i) (cap - i) ⟨b, 0, none⟩ 1 1 2 i0 under27_ HI0.out hz1 HR1.out (cs := [.string x.k.1, .string x.v.1]) (by rw [hmin2]; rfl) (fun j u hj => by rw [addr_add]; exact HXR1.out.cell j u hj) hfit2 (by simp [Value.oneCell'])
    rw [hmin2] at this
    exact this
  have HR2 : Hid (RowAt w2 g 47 (over (over (xs.flatMap encP ++ tl) ((i + 1) * 2) D) (i * 2) [.string x.k.1, .string x.v.1])) := Lib.hid (by rw [hw2]; exact HR1.out.set _)
  have HC2 : Hid (Chg (fun k => k = g) w w2) := Lib.hid (by rw [hw2]; exact HC1.out.trans (chg_setRow _ _ _))
  clear hw2 hfit2
  go_wp2
  go_ret
  have hT : ((xs.take i).flatMap encP).length = i * 2 := by rw [flat_len lenP, List.length_take, Nat.min_eq_left bb]
  have hD := HDD.out.1
  have hDl := HDD.out.2
  have hsplit : xs.flatMap encP ++ tl = (xs.take i).flatMap encP ++ (D ++ tl) := by
    rw [hD, ← List.append_assoc, ← List.flatMap_append, List.take_append_drop]
  have hcl := HL.out.1
  have hxl := HL.out.2
  have htl : 2 ≤ tl.length := by rw [List.length_append] at hcl; omega
  have hfin := HR2.out
  have e1 := over_room ((xs.take i).flatMap encP) (D ++ tl) D [.string x.k.1, .string x.v.1] rfl (by rw [List.length_append]; omega)
  rw [hT, ← hsplit, show i * 2 + 2 = (i + 1) * 2 by omega] at e1
  rw [e1] at hfin
  have hins : (insL xs i x).flatMap encP = (xs.take i).flatMap encP ++ ([.string x.k.1, .string x.v.1] ++ D) := by rw [insL_flat, hD]; rfl
  have hfin2 : RowAt w2 g 47 ((insL xs i x).flatMap encP ++ (D ++ tl).drop (2 + D.length)) := by
    rw [hins, List.append_assoc, List.append_assoc]
    exact hfin
  refine ⟨_, rfl, ?_, HC2.out.mono (fun k hk => by subst hk; exact hB)⟩
  rw [insL_len _ _ _ bb]
  refine row_own hfin2 hB b6 hmax ?_ (by rw [flat_len lenP, insL_len _ _ _ bb])
  rw [List.length_append, flat_len lenP, insL_len _ _ _ bb, List.length_drop, List.length_append]
  rw [List.length_append] at hcl
  omega

set_option maxRecDepth 100000 in
set_option maxHeartbeats 1000000 in
theorem insB {w : World} {B b g i : Nat} {xs : List Pr} {x : Pr} (ho : w.ownsRow B 47 2 (.slice (some ⟨g, 0, none⟩) xs.length xs.length) xs.length (xs.flatMap encP)) (hx : RowAt w b 47 [.string x.k.1, .string x.v.1]) (hi : i < xs.length) (hn : xs.length ≤ 1000000) (hBw : B ≤ w.heap.size) :
    Calls Try.prog 48 #[.slice (some ⟨g, 0, none⟩) xs.length xs.length, .int .i64 (i : Nat), .slice (some ⟨b, 0, none⟩) 1 1] w (InsP B i x xs w) := by
  obtain ⟨-, hB, hcap, hmax, tl, hrow, hcl, hxl⟩ := own_row ho
  obtain ⟨i0, hi0, hz0, hz1, hz2⟩ := info47_
  have HI0 := Lib.hid hi0
  have HROW := Lib.hid hrow
  have HXR := Lib.hid hx
  have bb : i ≤ xs.length := by omega
  obtain ⟨T, hTd⟩ : ∃ T, T = (xs.take i).flatMap encP := ⟨_, rfl⟩
  have hT : T.length = i * 2 := by rw [hTd, flat_len lenP, List.length_take, Nat.min_eq_left bb]
  obtain ⟨D, hD⟩ : ∃ D, D = (xs.drop i).flatMap encP := ⟨_, rfl⟩
  have hDl : D.length = (xs.length - i) * 2 := by rw [hD, flat_len lenP, List.length_drop]
  have hDone := Lib.hid (show ∀ u ∈ D, u.oneCell' = true by rw [hD]; exact oneP _)
  have hold : (Builtin.firstCells i0.size i (.slice (some ⟨g, 0, none⟩) i xs.length)).run Try.prog w.drew = .ok T.toArray w.drew := by
    rw [hz1]
    refine run_firstCells_some w.drew 2 i ⟨g, 0, none⟩ i xs.length T hT (fun j u hj => ?_)
    rw [addr_add]
    refine RowAt.cell (w := w.drew) hrow _ _ ?_
    rw [hTd, ← flat_take lenP _ _ bb, List.getElem?_take] at hj
    split at hj
    · rw [List.getElem?_append_left (List.getElem?_eq_some_iff.1 hj).1]
      exact hj
    · simp at hj
  have hr := fun ty => Lib.run_append_grow_zeros (P := Try.prog) w 27 3 ty 47 i0 (.agg #[.string ⟨#[]⟩, .string ⟨#[]⟩]) .i64 .i64 under27_ (by rfl) hi0 hz0 (some ⟨g, 0, none⟩) i xs.length T hold (xs.length + 1 - i) (by omega) (by rw [hz1]; decide) (by omega) (by omega) (by rw [hz2]; omega) (by
    rw [hz2]
    have := nextslicecap_le (need := i + (xs.length + 1 - i)) (old := xs.length) (by omega)
    omega)
  rw [show i + (xs.length + 1 - i) = xs.length + 1 by omega] at hr
  have hg1 := grownCap_ge w (xs.length + 1) xs.length 47
  have hg2 := grownCap_le_maxLen w (xs.length + 1) xs.length 47 (by unfold maxLen; omega)
  generalize grownCap w (xs.length + 1) xs.length 47 = cap at *
  have hg3 : cap ≤ 9223372036854775807 := hg2
  obtain ⟨Z, hZ⟩ : ∃ Z, Z = (Builtin.zeroCells (Value.agg #[.string ⟨#[]⟩, .string ⟨#[]⟩]).cells (xs.length + 1 - i)).toList ++ (Builtin.zeroCells (Value.agg #[.string ⟨#[]⟩, .string ⟨#[]⟩]).cells (cap - (xs.length + 1))).toList := ⟨_, rfl⟩
  have hZl : Z.length = (cap - i) * 2 := by
    rw [hZ, List.length_append]
    have e1 : ∀ n, (Builtin.zeroCells (Value.agg #[.string ⟨#[]⟩, .string ⟨#[]⟩]).cells n).toList.length = n * 2 := fun n => by rw [Array.length_toList]; exact size_zeroCells _ _
    rw [e1, e1]
    omega
  obtain ⟨w1, hw1⟩ : ∃ w1, w1 = w.drew.alloc (.cells (T ++ Z).toArray 47) := ⟨_, rfl⟩
  have hcells : (T.toArray ++ Builtin.zeroCells (Value.agg #[.string ⟨#[]⟩, .string ⟨#[]⟩]).cells (xs.length + 1 - i) ++ Builtin.zeroCells (Value.agg #[.string ⟨#[]⟩, .string ⟨#[]⟩]).cells (cap - (xs.length + 1))) = (T ++ Z).toArray := by
    rw [hZ]
    apply Array.ext'
    simp
  have HR0 : Hid (∀ ty, (Builtin.append_ #[27, 3] ty #[.slice (some ⟨g, 0, none⟩) i xs.length, .int .i64 ((xs.length + 1 - i : Nat) : Int)]).run Try.prog w = .ok (.slice (some ⟨w.heap.size, 0, none⟩) (xs.length + 1) cap) w1) := Lib.hid (fun ty => by
    have := hr ty
    rw [hcells] at this
    rw [hw1]
    exact this)
  have HR1 : Hid (RowAt w1 w.heap.size 47 (T ++ Z)) := Lib.hid (by rw [hw1]; exact heap_alloc_new w.drew _)
  have HC1 : Hid (Chg (fun k => B ≤ k) w w1) := Lib.hid (by rw [hw1]; exact (Chg.drew _).trans (Chg.alloc _ _))
  have hgw := heap_lt hrow
  have hbw := heap_lt hx
  have HX1 : Hid (RowAt w1 b 47 [.string x.k.1, .string x.v.1]) := Lib.hid (by rw [hw1]; exact ((Chg.drew (S := fun _ => False) w).trans (Chg.alloc _ _)).heap hx id)
  have HG1 : Hid (RowAt w1 g 47 (xs.flatMap encP ++ tl)) := Lib.hid (by rw [hw1]; exact ((Chg.drew (S := fun _ => False) w).trans (Chg.alloc _ _)).heap hrow id)
  have he : (xs.length : Int) + 1 - (i : Int) = ((xs.length + 1 - i : Nat) : Int) := by omega
  generalize w.heap.size = g2 at *
  have HDD := Lib.hid (And.intro hD hDl)
  have HTT := Lib.hid (And.intro hTd hT)
  have HZL := Lib.hid hZl
  clear hD hDl hTd hT hr hold hcells hw1 hZ hZl ho hrow hx hcl hxl hi0 hcap hmax
  have b3 : (0 : Int) ≤ (i : Int) + 1 := by omega
  have b4 : (i : Int) + 1 ≤ (xs.length : Int) + 1 := by omega
  have b5 : (xs.length : Int) + 1 ≤ (cap : Int) := by omega
  have b7 : i ≤ cap := by omega
  have b1 : (i : Int) ≤ (xs.length : Int) := by omega
  have b8 : ¬ i = xs.length := by omega
  have b8' : ¬ xs.length = i := by omega
  have b9 : ((i : Int) == (xs.length : Int)) = false := beq_eq_false_iff_ne.2 (by omega)
  have bc : i + 1 ≤ xs.length + 1 := by omega
  have bd : ¬ cap = i := by omega
  have be : ¬ cap = i + 1 := by omega
  have hwr1 : IntKind.i64.wrap ((i : Int) + 1) = (i : Int) + 1 := by rw [IntKind.wrap_i64]; omega
  have bf : (i : Int) ≤ (xs.length : Int) + 1 := by omega
  have htn : ((i : Int) + 1).toNat = i + 1 := by omega
  have hmin2 : Nat.min 1 (xs.length + 1 - i) = 1 := by simp only [Nat.min_def]; split <;> omega
  have hfit2 : i * 2 + [Value.string x.k.1, Value.string x.v.1].length ≤ (T ++ Z).length := by
    rw [List.length_append, HTT.out.2, HZL.out]; simp only [List.length_cons, List.length_nil]; omega
  obtain ⟨w2, hw2⟩ : ∃ w2, w2 = w1.setRow g2 (over (T ++ Z) (i * 2) [.string x.k.1, .string x.v.1]).toArray := ⟨_, rfl⟩
  have hcp : ∀ ty, (Builtin.copy_ #[27, 27] ty #[.slice (some ⟨g2, i * 2, none⟩) (xs.length + 1 - i) (cap - i), .slice (some ⟨b, 0, none⟩) 1 1]).run Try.prog w1 = .ok (goInt 1) w2 := fun ty => by
    rw [hw2]
    have := run_copy_rowN (P := Try.prog) 27 27 ty 47 g2 (i * 2) (xs.length + 1 - i) (cap - i) ⟨b, 0, none⟩ 1 1 2 i0 under27_ HI0.out hz1 HR1.out (cs := [.string x.k.1, .string x.v.1]) (by rw [hmin2]; rfl) (fun j u hj => by rw [addr_add]; exact HX1.out.cell j u hj) hfit2 (by simp [Value.oneCell'])
    rw [hmin2] at this
    exact this
  have HR2 : Hid (RowAt w2 g2 47 (over (T ++ Z) (i * 2) [.string x.k.1, .string x.v.1])) := Lib.hid (by rw [hw2]; exact HR1.out.set _)
  have HC2 : Hid (Chg (fun k => B ≤ k) w w2) := Lib.hid (by rw [hw2]; exact HC1.out.trans ((chg_setRow _ _ _).mono (fun k hk => by subst hk; exact hBw)))
  have HG2 : Hid (RowAt w2 g 47 (xs.flatMap encP ++ tl)) := Lib.hid (by rw [hw2]; exact (chg_setRow _ _ _).heap HG1.out (show ¬ g = g2 by omega))
  clear hw2
  have HFIT2 := Lib.hid hfit2
  clear hfit2
  go_enter Try.func48, Try.ntmps48
  go_wp2_with (at_builtin; refine Lib.wpList_append_run _ rfl _ _ _ _ rfl _ _ rfl rfl _ _ (HR0.out _) ?_)
  have hmin1 : Nat.min (xs.length - i) (xs.length + 1 - (i + 1)) = xs.length - i := by simp only [Nat.min_def]; split <;> omega
  have hDsrc : Hid (∀ t u, D[t]? = some u → w2.drew.cell? ((⟨g, i * 2, none⟩ : Addr).add t) = some u) := Lib.hid (fun t u hu => by
    rw [Addr.add_lit]
    refine RowAt.cell (w := w2.drew) HG2.out _ _ ?_
    rw [HDD.out.1, ← flat_drop lenP _ _ bb, List.getElem?_drop] at hu
    rw [List.getElem?_append_left (List.getElem?_eq_some_iff.1 hu).1]
    exact hu)
  have hw3 : Hid (RowAt w2.drew g2 47 (over (T ++ Z) (i * 2) [.string x.k.1, .string x.v.1])) := HR2
  refine wp_region_held_drew (S := fun w' => Chg (fun k => B ≤ k) w w') (by kernel_rfl) (HC2.out.trans (Chg.drew _)) (fun hHeld => ?_)
  refine wpAnyH_take (i := 0) (oi := { dst := some 46, op := _, type := _, pos := _, after := _, guard := _ }) (v := ?_) rfl (by kernel_rfl) (by kernel_rfl) (by kernel_rfl) (fun _ _ _ h => h) (Or.inl ⟨by rfl, ?_⟩) (by assumption) ?_
  case refine_2 => intro w hSw; (try dsimp only at hSw); go_simp; all_goals (with_reducible rfl)
  try simp only [Act.put, List.setIfInBounds_toArray, List.set_cons_zero, List.set_cons_succ]
  refine wpAnyH_take (i := 1) (oi := { dst := some 47, op := _, type := _, pos := _, after := _, guard := _ }) (v := ?_) rfl (by kernel_rfl) (by kernel_rfl) (by kernel_rfl) (fun _ _ _ h => h) (Or.inl ⟨by rfl, ?_⟩) (by assumption) ?_
  case refine_2 => intro w hSw; (try dsimp only at hSw); go_simp; all_goals (with_reducible rfl)
  try simp only [Act.put, List.setIfInBounds_toArray, List.set_cons_zero, List.set_cons_succ]
  refine wpAnyH_take (i := 2) (oi := { dst := some 48, op := _, type := _, pos := _, after := _, guard := _ }) (v := ?_) rfl (by kernel_rfl) (by kernel_rfl) (by kernel_rfl) (fun _ _ _ h => h) (Or.inl ⟨by rfl, ?_⟩) (by assumption) ?_
  case refine_2 => intro w hSw; (try dsimp only at hSw); go_simp; all_goals (with_reducible rfl)
  try simp only [Act.put, List.setIfInBounds_toArray, List.set_cons_zero, List.set_cons_succ]
  refine wpAnyH_take (i := 3) (oi := { dst := some 49, op := _, type := _, pos := _, after := _, guard := _ }) (v := ?_) rfl (by kernel_rfl) (by kernel_rfl) (by kernel_rfl) (fun _ _ _ h => h) (Or.inl ⟨by rfl, ?_⟩) (by assumption) ?_
  case refine_2 => intro w hSw; (try dsimp only at hSw); go_simp; all_goals (with_reducible rfl)
  try simp only [Act.put, List.setIfInBounds_toArray, List.set_cons_zero, List.set_cons_succ]
  refine wpAnyH_take (i := 4) (oi := { dst := some 50, op := _, type := _, pos := _, after := _, guard := _ }) (v := ?_) rfl (by kernel_rfl) (by kernel_rfl) (by kernel_rfl) (fun _ _ _ h => h) (Or.inl ⟨by rfl, ?_⟩) (by assumption) ?_
  case refine_2 => intro w hSw; (try dsimp only at hSw); go_simp; all_goals (with_reducible rfl)
  try simp only [Act.put, List.setIfInBounds_toArray, List.set_cons_zero, List.set_cons_succ]
  refine wpAnyH_take (i := 5) (oi := { dst := some 51, op := _, type := _, pos := _, after := _, guard := _ }) (v := ?_) rfl (by kernel_rfl) (by kernel_rfl) (by kernel_rfl) (fun _ _ _ h => h) (Or.inl ⟨by rfl, ?_⟩) (by assumption) ?_
  case refine_2 => intro w hSw; (try dsimp only at hSw); go_simp; all_goals (with_reducible rfl)
  try simp only [Act.put, List.setIfInBounds_toArray, List.set_cons_zero, List.set_cons_succ]
  refine wpAnyH_take (i := 6) (oi := { dst := some 52, op := _, type := _, pos := _, after := _, guard := _ }) (v := ?_) rfl (by kernel_rfl) (by kernel_rfl) (by kernel_rfl) (fun _ _ _ h => h) (Or.inl ⟨by rfl, ?_⟩) (by assumption) ?_
  case refine_2 => intro w hSw; (try dsimp only at hSw); go_simp; all_goals (with_reducible rfl)
  try simp only [Act.put, List.setIfInBounds_toArray, List.set_cons_zero, List.set_cons_succ]
  refine wpAnyH_take (i := 7) (oi := { dst := some 53, op := _, type := _, pos := _, after := _, guard := _ }) (v := ?_) rfl (by kernel_rfl) (by kernel_rfl) (by kernel_rfl) (fun _ _ _ h => h) (Or.inl ⟨by rfl, ?_⟩) (by assumption) ?_
  case refine_2 => intro w hSw; (try dsimp only at hSw); go_simp; all_goals (with_reducible rfl)
  try simp only [Act.put, List.setIfInBounds_toArray, List.set_cons_zero, List.set_cons_succ]
  refine wpAnyH_ready (rs := [8]) (by kernel_rfl) (by simp) ?_
  refine AllReadyH.cons (o := { dst := some 54, op := _, type := _, pos := _, after := _, guard := _ }) rfl (fun K hK => ?_) AllReadyH.nil
  refine step_copy_rowN rfl (.tmp 50) (.tmp 53) 27 27 rfl 47 i0 2 under27_ HI0.out hz1 g2 ((i + 1) * 2) (xs.length + 1 - (i + 1)) (cap - (i + 1)) ⟨g, i * 2, none⟩ (xs.length - i) (xs.length - i) (by simp [Act.eval]) (by simp [Act.eval]) 47 _ D hw3.out (by rw [hmin1]; exact HDD.out.2) hDsrc.out (by rw [over_len _ _ _ HFIT2.out, List.length_append, HTT.out.2, HZL.out, HDD.out.2]; omega) hDone.out ?_
  intro w3 v1 HR3 hc3
  refine hK.out _ _ (hHeld.trans (hc3.mono (fun k hk => by subst hk; exact hBw))) (fun hHeld => ?_)
  clear hK K
  try simp only [Act.put, List.setIfInBounds_toArray, List.set_cons_zero, List.set_cons_succ]
  refine wpAnyH_done (by kernel_rfl) ?_ _
  have HC3 := Lib.hid hHeld
  clear hHeld hc3 hDsrc hcp
  go_wp2
  go_ret
  have hD := HDD.out.1
  have hDl := HDD.out.2
  have hTl := HTT.out.2
  have hZl := HZL.out
  have hfin := HR3.out
  have e1 := over_new T Z D [.string x.k.1, .string x.v.1] rfl
  rw [hTl, show i * 2 + 2 = (i + 1) * 2 by omega] at e1
  rw [e1] at hfin
  have hins : (insL xs i x).flatMap encP = T ++ ([.string x.k.1, .string x.v.1] ++ D) := by rw [insL_flat, hD, HTT.out.1]; rfl
  have hfin2 : RowAt w3 g2 47 ((insL xs i x).flatMap encP ++ Z.drop (2 + D.length)) := by
    rw [hins, List.append_assoc, List.append_assoc]
    exact hfin
  refine ⟨_, rfl, ?_, HC3.out⟩
  rw [insL_len _ _ _ bb]
  refine row_own hfin2 hBw hg1 hg2 ?_ (by rw [flat_len lenP, insL_len _ _ _ bb])
  rw [List.length_append, flat_len lenP, insL_len _ _ _ bb, List.length_drop]
  omega
end Go.Proofs.Ytekoibglogoaaaa
