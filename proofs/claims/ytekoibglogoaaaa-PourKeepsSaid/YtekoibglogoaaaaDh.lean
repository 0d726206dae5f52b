/- Taking a pair out of a row of the call's own. -/
import Derived.Test.YtekoibglogoaaaaDg
import Derived.Deep.RegionHeld3
namespace Go.Proofs.Ytekoibglogoaaaa
open Go Go.RowKit Go.Shelf
set_option linter.unusedVariables false
set_option linter.unusedSimpArgs false

theorem flat_take {α : Type} {enc : α → List Value} {sz : Nat} (he : ∀ x, (enc x).length = sz) (xs : List α) (i : Nat) (hi : i ≤ xs.length) : (xs.flatMap enc).take (i * sz) = (xs.take i).flatMap enc := by
  have hl : ((xs.take i).flatMap enc).length = i * sz := by rw [flat_len he, List.length_take, Nat.min_eq_left hi]
  conv => lhs; rw [← List.take_append_drop i xs, List.flatMap_append]
  rw [← hl, List.take_left]
theorem flat_drop {α : Type} {enc : α → List Value} {sz : Nat} (he : ∀ x, (enc x).length = sz) (xs : List α) (i : Nat) (hi : i ≤ xs.length) : (xs.flatMap enc).drop (i * sz) = (xs.drop i).flatMap enc := by
  have hl : ((xs.take i).flatMap enc).length = i * sz := by rw [flat_len he, List.length_take, Nat.min_eq_left hi]
  conv => lhs; rw [← List.take_append_drop i xs, List.flatMap_append]
  rw [← hl, List.drop_left]
def DelP (B g cap i : Nat) (xs : List Pr) (w : World) (e : Ending) (w' : World) : Prop :=
  e = .returned (.slice (some ⟨g, 0, none⟩) (xs.length - 1) cap) ∧ w'.ownsRow B 47 2 (.slice (some ⟨g, 0, none⟩) (xs.length - 1) cap) (xs.eraseIdx i).length ((xs.eraseIdx i).flatMap encP) ∧ Chg (fun k => k = g) w w'
theorem erase_eq {α : Type} (xs : List α) (i : Nat) : xs.eraseIdx i = xs.take i ++ xs.drop (i + 1) := List.eraseIdx_eq_take_drop_succ xs i

set_option maxRecDepth 100000 in
set_option maxHeartbeats 1000000 in
theorem delete47 {w : World} {B g cap i : Nat} {xs : List Pr} (ho : w.ownsRow B 47 2 (.slice (some ⟨g, 0, none⟩) xs.length cap) xs.length (xs.flatMap encP)) (hi : i < xs.length) (hn : xs.length ≤ 1000000) :
    Calls Try.prog 47 #[.slice (some ⟨g, 0, none⟩) xs.length cap, .int .i64 (i : Nat), .int .i64 ((i : Int) + 1)] w (DelP B g cap i xs w) := by
  obtain ⟨-, hB, hcap, hmax, tl, hrow, hcl, hxl⟩ := own_row ho
  have hc2 : cap ≤ 9223372036854775807 := hmax
  obtain ⟨news, hnews⟩ : ∃ news, news = (xs.drop (i + 1)).flatMap encP := ⟨_, rfl⟩
  have hnl : news.length = (xs.length - (i + 1)) * 2 := by rw [hnews, flat_len lenP, List.length_drop]
  have hone := Lib.hid (oneP (xs.drop (i + 1)))
  have hdrop : (xs.flatMap encP).drop ((i + 1) * 2) = news := by rw [hnews, flat_drop lenP _ _ (by omega)]
  have hget : ∀ t u, news[t]? = some u → w.drew.cell? ⟨g, (i + 1) * 2 + t, none⟩ = some u := fun t u hu => by
    refine RowAt.cell (w := w.drew) hrow _ _ ?_
    rw [← hdrop, List.getElem?_drop] at hu
    rw [List.getElem?_append_left (List.getElem?_eq_some_iff.1 hu).1]
    exact hu
  obtain ⟨A, hA, hsrc⟩ : ∃ A : Addr, (if cap = i + 1 then (some ⟨g, 0, none⟩ : Option Addr) else some ⟨g, (i + 1) * 2, none⟩) = some A ∧ Hid (∀ t u, news[t]? = some u → w.drew.cell? (A.add t) = some u) := by
    by_cases h : cap = i + 1
    · refine ⟨⟨g, 0, none⟩, by simp [h], fun t u hu => ?_⟩
      have h0 : news.length = 0 := by rw [hnl]; omega
      rw [List.length_eq_zero_iff.1 h0] at hu
      simp at hu
    · refine ⟨⟨g, (i + 1) * 2, none⟩, by simp [h], fun t u hu => ?_⟩
      rw [Addr.add_lit]
      exact hget t u hu
  have HROW := Lib.hid (show RowAt w.drew g 47 (xs.flatMap encP ++ tl) from hrow)
  obtain ⟨i0, hi0, hz0, hz1, hz2⟩ := info47_
  have HI0 := Lib.hid hi0
  have hq : ((i : Int) == (i : Int) + 1) = false := beq_eq_false_iff_ne.2 (by omega)
  have b6 : i ≤ cap := by omega
  have b7 : i + 1 ≤ cap := by omega
  have b8 : i + 1 ≤ xs.length := by omega
  have b9 : i ≤ xs.length := by omega
  have b1 : (i : Int) + 1 ≤ (xs.length : Int) := by omega
  have b2 : (xs.length : Int) ≤ (cap : Int) := by omega
  have b3 : (0 : Int) ≤ (i : Int) + 1 := by omega
  have b4 : (i : Int) ≤ (i : Int) + 1 := by omega
  have b5 : (i : Int) + 1 ≤ (cap : Int) := by omega
  have HX := Lib.hid (And.intro hnl (And.intro hcl hxl))
  have HNEWS := Lib.hid hnews
  clear hget hdrop hnews hnl hcl hxl ho hrow hi0
  go_enter Try.func47, Try.ntmps47
  go_wp2_with fail
  refine wp_region_held_drew (S := fun w' => Chg (fun k => k = g) w w') (by kernel_rfl) (Chg.drew _) (fun hHeld => ?_)
  refine wpAnyH_take (i := 0) (oi := { dst := some 20, op := _, type := _, pos := _, after := _, guard := _ }) (v := ?_) rfl (by kernel_rfl) (by kernel_rfl) (by kernel_rfl) (fun _ _ _ h => h) (Or.inl ⟨by rfl, ?_⟩) (by assumption) ?_
  case refine_2 => intro w hSw; (try dsimp only at hSw); go_simp; all_goals (with_reducible rfl)
  try simp only [Act.put, List.setIfInBounds_toArray, List.set_cons_zero, List.set_cons_succ]
  refine wpAnyH_take (i := 1) (oi := { dst := some 21, op := _, type := _, pos := _, after := _, guard := _ }) (v := ?_) rfl (by kernel_rfl) (by kernel_rfl) (by kernel_rfl) (fun _ _ _ h => h) (Or.inl ⟨by rfl, ?_⟩) (by assumption) ?_
  case refine_2 => intro w hSw; (try dsimp only at hSw); go_simp; all_goals (with_reducible rfl)
  try simp only [Act.put, List.setIfInBounds_toArray, List.set_cons_zero, List.set_cons_succ]
  refine wpAnyH_take (i := 2) (oi := { dst := some 22, op := _, type := _, pos := _, after := _, guard := _ }) (v := ?_) rfl (by kernel_rfl) (by kernel_rfl) (by kernel_rfl) (fun _ _ _ h => h) (Or.inl ⟨by rfl, ?_⟩) (by assumption) ?_
  case refine_2 => intro w hSw; (try dsimp only at hSw); go_simp; all_goals (with_reducible rfl)
  try simp only [Act.put, List.setIfInBounds_toArray, List.set_cons_zero, List.set_cons_succ]
  refine wpAnyH_take (i := 3) (oi := { dst := some 23, op := _, type := _, pos := _, after := _, guard := _ }) (v := ?_) rfl (by kernel_rfl) (by kernel_rfl) (by kernel_rfl) (fun _ _ _ h => h) (Or.inl ⟨by rfl, ?_⟩) (by assumption) ?_
  case refine_2 => intro w hSw; (try dsimp only at hSw); go_simp; all_goals (with_reducible rfl)
  try simp only [Act.put, List.setIfInBounds_toArray, List.set_cons_zero, List.set_cons_succ]
  refine wpAnyH_take (i := 4) (oi := { dst := some 24, op := _, type := _, pos := _, after := _, guard := _ }) (v := ?_) rfl (by kernel_rfl) (by kernel_rfl) (by kernel_rfl) (fun _ _ _ h => h) (Or.inl ⟨by rfl, ?_⟩) (by assumption) ?_
  case refine_2 => intro w hSw; (try dsimp only at hSw); go_simp; all_goals (with_reducible rfl)
  try simp only [Act.put, List.setIfInBounds_toArray, List.set_cons_zero, List.set_cons_succ]
  refine wpAnyH_take (i := 5) (oi := { dst := some 25, op := _, type := _, pos := _, after := _, guard := _ }) (v := ?_) rfl (by kernel_rfl) (by kernel_rfl) (by kernel_rfl) (fun _ _ _ h => h) (Or.inl ⟨by rfl, ?_⟩) (by assumption) ?_
  case refine_2 => intro w hSw; (try dsimp only at hSw); go_simp; all_goals (with_reducible rfl)
  try simp only [Act.put, List.setIfInBounds_toArray, List.set_cons_zero, List.set_cons_succ]
  refine wpAnyH_ready (rs := [6]) (by kernel_rfl) (by simp) ?_
  refine AllReadyH.cons (o := { dst := some 26, op := _, type := _, pos := _, after := _, guard := _ }) rfl (fun K hK => ?_) AllReadyH.nil
  refine step_append_row rfl (.tmp 22) (.tmp 25) 27 rfl 47 i0 2 under27_ HI0.out hz1 g i cap rfl A (xs.length - (i + 1)) (cap - (i + 1)) (by simp [Act.eval, hA]) _ news HROW.out HX.out.1 hsrc.out (by rw [HNEWS.out]; exact hone.out) (by omega) (by rw [HX.out.1, HX.out.2.1]; omega) ?_
  intro w1 HR1 hc1
  refine hK.out _ _ (hHeld.trans hc1) (fun hHeld => ?_)
  clear hK K
  try simp only [Act.put, List.setIfInBounds_toArray, List.set_cons_zero, List.set_cons_succ]
  refine wpAnyH_take (i := 7) (oi := { dst := some 0, op := _, type := _, pos := _, after := _, guard := _ }) (v := ?_) rfl (by kernel_rfl) (by kernel_rfl) (by kernel_rfl) (fun _ _ _ h => h) (Or.inl ⟨by rfl, ?_⟩) (by assumption) ?_
  case refine_2 => intro w hSw; (try dsimp only at hSw); go_simp; all_goals (with_reducible rfl)
  try simp only [Act.put, List.setIfInBounds_toArray, List.set_cons_zero, List.set_cons_succ]
  refine wpAnyH_done (by kernel_rfl) ?_ _
  have HC1 := Lib.hid hHeld
  clear hHeld hc1
  have hln : i + (xs.length - (i + 1)) = xs.length - 1 := by omega
  rw [hln]
  have hnc : ¬ cap = xs.length - 1 := by omega
  have hl1 : xs.length - (xs.length - 1) = 1 := by omega
  have hzv := Try.zeroValue47
  have c1 : ((xs.length - 1 : Nat) : Int) ≤ (xs.length : Int) := by omega
  have c2 : (0 : Int) ≤ ((xs.length - 1 : Nat) : Int) := by omega
  have c3 : ((xs.length - 1 : Nat) : Int) ≤ (cap : Int) := by omega
  have HZ := Lib.hid hzv
  clear hzv hA
  obtain ⟨m, hm⟩ : ∃ m, m = xs.length - 1 := ⟨_, rfl⟩
  have hmn : xs.length = m + 1 := by omega
  rw [← hm]
  have hm1 : ((m : Nat) : Int) ≤ (xs.length : Int) := by omega
  have hm2 : (0 : Int) ≤ ((m : Nat) : Int) := by omega
  have hm3 : ((m : Nat) : Int) ≤ (cap : Int) := by omega
  have hm4 : ¬ cap = m := by omega
  have hm5 : xs.length - m = 1 := by omega
  have hm6 : m ≤ xs.length := by omega
  have hm7 : m ≤ cap := by omega
  have HMM := Lib.hid (And.intro hm hmn)
  have HHI := Lib.hid hi
  clear hln hnc hl1 c1 c2 c3 hm hmn b1 b2 b3 b4 b5 b6 b7 b8 b9 hi hq
  have hfit : (m * 2) + 2 ≤ (over (xs.flatMap encP ++ tl) (i * 2) news).length := by
    rw [over_len _ _ _ (by rw [HX.out.1, HX.out.2.1]; have := HMM.out; have := HHI.out; omega), HX.out.2.1]
    have := HMM.out
    omega
  obtain ⟨w2, hw2⟩ : ∃ w2, w2 = w1.setRow g (over (over (xs.flatMap encP ++ tl) (i * 2) news) (m * 2) [.string ⟨#[]⟩, .string ⟨#[]⟩]).toArray := ⟨_, rfl⟩
  have hcl : ∀ ty, (Builtin.clear_ #[27] ty #[.slice (some ⟨g, m * 2, none⟩) 1 (cap - m)]).run Try.prog w1 = .ok (.tuple #[]) w2 := fun ty => by
    rw [hw2]
    exact run_clear_one 27 47 ty _ under27_ HZ.out g (m * 2) (cap - m) 47 _ HR1.out [.string ⟨#[]⟩, .string ⟨#[]⟩] rfl (by simp) (by simp [Value.oneCell']) hfit
  have HR2 : Hid (RowAt w2 g 47 (over (over (xs.flatMap encP ++ tl) (i * 2) news) (m * 2) [.string ⟨#[]⟩, .string ⟨#[]⟩])) := Lib.hid (by rw [hw2]; exact HR1.out.set _)
  have HC2 : Hid (Chg (fun k => k = g) w w2) := Lib.hid (by rw [hw2]; exact HC1.out.trans (chg_setRow _ _ _))
  clear hw2 hfit
  go_wp2
  go_ret
  have hi := HHI.out
  obtain ⟨e1, e2⟩ := HMM.out
  refine ⟨by rw [← e1]; rfl, ?_, HC2.out⟩
  have hlen : (xs.eraseIdx i).length = m := by rw [List.length_eraseIdx, if_pos hi, e1]
  have hfl : ((xs.eraseIdx i).flatMap encP).length = m * 2 := by rw [flat_len lenP, hlen]
  have hcur : over (xs.flatMap encP ++ tl) (i * 2) news = (xs.eraseIdx i).flatMap encP ++ (xs.flatMap encP ++ tl).drop (i * 2 + news.length) := by
    unfold over
    rw [List.take_append_of_le_length (by rw [HX.out.2.2]; omega), flat_take lenP _ _ (by omega), HNEWS.out, erase_eq, List.flatMap_append, List.append_assoc]
  have hcur2 := HR2.out
  rw [hcur] at hcur2
  have h3 : over ((xs.eraseIdx i).flatMap encP ++ (xs.flatMap encP ++ tl).drop (i * 2 + news.length)) (m * 2) [.string ⟨#[]⟩, .string ⟨#[]⟩] = (xs.eraseIdx i).flatMap encP ++ ([.string ⟨#[]⟩, .string ⟨#[]⟩] ++ ((xs.flatMap encP ++ tl).drop (i * 2 + news.length)).drop 2) := by
    unfold over
    rw [← hfl, List.take_left, show ((xs.eraseIdx i).flatMap encP).length + [Value.string ⟨#[]⟩, Value.string ⟨#[]⟩].length = ((xs.eraseIdx i).flatMap encP).length + 2 from rfl, List.drop_append]
    rw [Nat.add_sub_cancel_left, List.drop_eq_nil_of_le (by omega), List.nil_append]
  rw [h3] at hcur2
  rw [hlen, ← e1]
  refine row_own hcur2 hB (by omega) hmax ?_ (by rw [hfl])
  have hx1 := HX.out.1
  have hx2 := HX.out.2.1
  have hx3 := HX.out.2.2
  simp only [List.length_append, List.length_drop, List.length_cons, List.length_nil] at hx2 ⊢
  rw [hfl]
  omega
end Go.Proofs.Ytekoibglogoaaaa
