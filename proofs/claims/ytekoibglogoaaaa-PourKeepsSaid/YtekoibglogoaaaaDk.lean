/- The document's leaf: cutting, putting, doing what a message says. -/
import Derived.Test.YtekoibglogoaaaaDj
namespace Go.Proofs.Ytekoibglogoaaaa
open Go Go.RowKit Go.Shelf
set_option linter.unusedVariables false
set_option linter.unusedSimpArgs false

theorem cutF_eq {xs : List Pr} {key : K} (h : Rises Pr.k xs) : xs.filter (fun p => decide (p.k ≠ key)) = loL Pr.k xs key ++ hiL Pr.k xs key := by
  have hp := h.pw
  clear h
  induction xs with
  | nil => rfl
  | cons a t ih =>
    have h1 := List.pairwise_cons.1 hp
    have ih := ih h1.2
    cases ha : kt a.k key with
    | true =>
      have el : loL Pr.k (a :: t) key = a :: loL Pr.k t key := by unfold loL; rw [List.filter_cons, if_pos ha]
      have eh : hiL Pr.k (a :: t) key = hiL Pr.k t key := by unfold hiL; rw [List.filter_cons, if_neg (by rw [kt_asymm ha]; simp)]
      rw [el, eh, List.filter_cons, if_pos (by simpa using kt_ne ha), ih]
      rfl
    | false =>
      obtain ⟨n1, n2⟩ := pw_none h1.1 ha
      have el : loL Pr.k (a :: t) key = [] := by unfold loL; rw [List.filter_cons, if_neg (by rw [ha]; simp), filter_none n1]
      have e2 : hiL Pr.k t key = t := filter_all n2
      have e3 : t.filter (fun p => decide (p.k ≠ key)) = t := filter_all (fun y hy => by
        have := kt_ne (n2 y hy)
        simpa using Ne.symm this)
      rw [el, List.nil_append, List.filter_cons, e3]
      by_cases hk : a.k = key
      · rw [if_neg (by simp [hk])]
        unfold hiL
        rw [List.filter_cons, if_neg (by rw [hk, kt_irr]; simp)]
        exact e2.symm
      · rw [if_pos (by simpa using hk)]
        unfold hiL
        rw [List.filter_cons, if_pos (kt_of_le ha hk)]
        rw [show t.filter (fun x => kt key x.k) = t from e2]

set_option maxRecDepth 100000 in
set_option maxHeartbeats 1000000 in
theorem cut50 {w : World} {v : Value} {xs : List Pr} (key : K) (h : Sl encP 2 w v xs) (n1 : xs.length ≤ 800000) :
    Calls Try.prog 50 #[v, .string key.1] w (PairsP (xs.filter (fun p => decide (p.k ≠ key))) w) := by
  obtain ⟨A, c, rfl, qa, qb⟩ := h.form
  have H := Lib.hid h
  clear h
  obtain ⟨i0, hi0, hz0, hz1, hz2⟩ := info47_
  have HI := Lib.hid hi0
  have HO1 : Hid ((w.alloc (.cells #[] 47)).ownsRow w.heap.size 47 2 (.slice (some ⟨w.heap.size, 0, none⟩) 0 0) 0 []) := Lib.hid (World.ownsRow_made w #[] 0 (Nat.le_refl _) (Nat.zero_le _) (by simp))
  clear hi0
  go_enter Try.func50, Try.ntmps50
  go_wp2_with fail
  go_loopw [5, 6] (fun v i wr => ∃ (k : Nat) (acc : List Pr), k ≤ xs.length ∧ i = .int .i64 (k : Nat) ∧ Hid (wr.ownsRow w.heap.size 47 2 v acc.length (acc.flatMap encP)) ∧ Hid (acc = (xs.take k).filter (fun p => decide (p.k ≠ key))) ∧ acc.length ≤ k ∧ Still w wr) (fun _ i _ => xs.length - nv i)
  case atStart => exact ⟨0, [], Nat.zero_le _, rfl, HO1, Lib.hid rfl, Nat.le_refl _, Chg.alloc w _⟩
  clear HO1
  case round =>
    obtain ⟨k, acc, hk, rfl, HO, HE, hal, hs⟩ := hrel
    have HS := Lib.hid hs
    clear hs
    by_cases hlt : k < xs.length
    · obtain ⟨b, off, rfl, hb, x0, x1⟩ := (H.out.still HS.out).pr k hlt
      have HN : Hid ((xs.take (k + 1)).filter (fun p => decide (p.k ≠ key)) = acc ++ if xs[k].k = key then [] else [xs[k]]) := Lib.hid (by
        rw [List.take_succ_eq_append_getElem hlt, List.filter_append, ← HE.out]
        congr 1
        by_cases e : xs[k].k = key
        · rw [if_pos e]; simp [e]
        · rw [if_neg e]; simp [e])
      generalize xs[k] = x at x0 x1 HN
      by_cases e : x.k = key
      · have HN2 : Hid ((xs.take (k + 1)).filter (fun p => decide (p.k ≠ key)) = acc) := Lib.hid (by rw [HN.out, if_pos e, List.append_nil])
        have e2 : (x.k.1.toList != key.1.toList) = false := by rw [e]; simp
        have e3 : x.k.1.toList = key.1.toList := by rw [e]
        have e4 : (x.k.1.toList == key.1.toList) = true := by rw [e]; simp
        clear HN e
        go_wp2
        go_roundw
        case rel => exact ⟨k + 1, acc, by omega, by go_num, HO, Lib.hid HN2.out.symm, by omega, HS.out⟩
        case measure => simp [nv]; omega
      · have HN2 : Hid ((xs.take (k + 1)).filter (fun p => decide (p.k ≠ key)) = acc ++ [x]) := Lib.hid (by rw [HN.out, if_neg e])
        have e2 : (x.k.1.toList != key.1.toList) = true := by rw [bne, kneB e]; rfl
        have e3 := kne e
        have e4 := kneB e
        clear HN e
        go_wp2_with (at_builtin; refine wpList_append_any (enc := encP) rfl _ _ 27 rfl w.heap.size 47 i0 (.agg #[.string ⟨#[]⟩, .string ⟨#[]⟩]) 2 32 under27_ HI.out hz0 hz1 hz2 rfl (by decide) lenP _ acc.length (acc.flatMap encP) rfl (own_still HO.out (Chg.alloc _ _)) (some ⟨wr.heap.size, 0, none⟩) 1 1 [x] rfl (one_sl lenP wr x 47 #[.string x.k.1, .string x.v.1] rfl) (oneP _) (by unfold maxLen; rw [List.length_singleton]; omega) (by rw [List.length_singleton]; omega) (Nat.le_trans HS.out.size (Chg.alloc (S := fun _ => False) _ _).size) ?_)
        intro v' w2 hown hg
        have HO2 : Hid (w2.ownsRow w.heap.size 47 2 v' (acc ++ [x]).length ((acc ++ [x]).flatMap encP)) := Lib.hid (by rw [List.length_append, List.flatMap_append]; exact hown)
        have HS2 := Lib.hid (still_grown (HS.out.allocs _) (own_still HO.out (Chg.alloc _ _)) (Nat.le_refl _) hg)
        have hl2 : (acc ++ [x]).length ≤ k + 1 := by rw [List.length_append, List.length_singleton]; omega
        have HL2 := Lib.hid hl2
        clear hown hg x0 x1 hl2
        go_wp2
        go_roundw
        case rel => exact ⟨k + 1, acc ++ [x], by omega, by go_num, HO2, Lib.hid HN2.out.symm, HL2.out, HS2.out⟩
        case measure => simp [nv]; omega
    · have HE2 : Hid (acc = xs.filter (fun p => decide (p.k ≠ key))) := Lib.hid (by rw [HE.out, List.take_of_length_le (by omega)])
      go_wp2
      go_ret
      exact ⟨_, rfl, by rw [← HE2.out]; exact own_slf lenP (by decide) HO.out (Nat.le_refl _), HS.out⟩

set_option maxRecDepth 100000 in
set_option maxHeartbeats 1000000 in
theorem put51 {w : World} {v : Value} {xs : List Pr} (key val : K) (h : Sl encP 2 w v xs) (hr : Rises Pr.k xs) (n1 : xs.length ≤ 800000) :
    Calls Try.prog 51 #[v, .string key.1, .string val.1] w (PairsP (loL Pr.k xs key ++ ⟨key, val⟩ :: hiL Pr.k xs key) w) := by
  have HC : Hid (Calls Try.prog 50 #[v, .string key.1] w (PairsP (loL Pr.k xs key ++ hiL Pr.k xs key) w)) := Lib.hid (by rw [← cutF_eq hr]; exact cut50 key h n1)
  have hcr := rises_of_pw (cut_pw (k := key) hr.pw)
  have hll := lohi_le (f := Pr.k) xs key
  have hpos : posN Pr.k (loL Pr.k xs key ++ hiL Pr.k xs key) key = (loL Pr.k xs key).length := by
    refine pos_eq (by simp) (fun t x ht hx => ?_) (fun t x ht hx => ?_)
    · rw [List.getElem?_append_left ht] at hx
      exact (lo_mem (List.mem_of_getElem? hx)).2
    · rw [List.getElem?_append_right ht] at hx
      exact kt_asymm (hi_mem (List.mem_of_getElem? hx)).2
  obtain ⟨i0, hi0, hz0, hz1, hz2⟩ := info47_
  have HI := Lib.hid hi0
  clear hi0
  have HLL := Lib.hid hpos
  have HCR := Lib.hid hcr
  clear h hr hpos hcr
  have hl2 : (loL Pr.k xs key ++ hiL Pr.k xs key).length ≤ 800000 := by rw [List.length_append]; omega
  have HTK : Hid ((loL Pr.k xs key ++ hiL Pr.k xs key).take (loL Pr.k xs key).length = loL Pr.k xs key ∧ (loL Pr.k xs key ++ hiL Pr.k xs key).drop (loL Pr.k xs key).length = hiL Pr.k xs key) := Lib.hid ⟨List.take_left, List.drop_left⟩
  generalize loL Pr.k xs key = lo at *
  generalize hiL Pr.k xs key = hi at *
  generalize lo ++ hi = l at *
  clear hll
  go_enter Try.func51, Try.ntmps51
  go_wp2_with fail
  refine HC.out.mono ?_
  rintro e w1 ⟨v1, rfl, ⟨hsl, -⟩, hs⟩
  obtain ⟨A, c, rfl, qa, qb⟩ := hsl.form
  have H := Lib.hid hsl
  have HS1 := Lib.hid hs
  have hAA : l.length = 0 ∨ ∃ b off, A = some ⟨b, off, none⟩ := by
    rcases Nat.eq_zero_or_pos l.length with h | h
    · exact .inl h
    · obtain ⟨b, off, rfl, -⟩ := hsl.pr 0 h
      exact .inr ⟨b, off, rfl⟩
  clear hsl hs HC
  go_wp2_with fail
  go_loopw [7] (fun i wr => ∃ (k : Nat), k ≤ l.length ∧ i = .int .i64 (k : Nat) ∧ Hid (∀ t x, t < k → l[t]? = some x → kt (Pr.k x) key = true) ∧ Still w1 wr) (fun i _ => l.length - nv i)
  case atStart => exact ⟨0, Nat.zero_le _, rfl, Lib.hid (fun t x h => by omega), Chg.refl _ _⟩
  case round =>
    obtain ⟨k, hk, rfl, HR, hs⟩ := hrel
    have HS := Lib.hid hs
    clear hs
    have HEND : Hid (posN Pr.k l key = k → l.take k = lo ∧ l.drop k = hi) := Lib.hid (fun h => by
      have e : k = lo.length := h.symm.trans HLL.out
      subst e
      exact HTK.out)
    have hex : k < l.length ∨ ¬ k < l.length := by omega
    rcases hex with hlt | hlt
    · obtain ⟨b, off, hAe, hb, x0, x1⟩ := (H.out.still HS.out).pr k hlt
      have HX := Lib.hid (ge_some hlt)
      generalize l[k] = x at x0 x1 HX
      go_wp2_with fail
      refine (rcompare_s x.k key _).mono ?_
      rintro e w2 ⟨rfl, hs⟩
      have HS2 := Lib.hid (HS.out.trans hs)
      clear hs x0 x1
      by_cases hc : kc x.k key < 0
      · subst hAe
        have HR2 : Hid (∀ t x, t < k + 1 → l[t]? = some x → kt (Pr.k x) key = true) := Lib.hid (fun t y h1 h2 => by
          by_cases e : t = k
          · subst e
            rw [HX.out] at h2
            simp only [Option.some.injEq] at h2
            subst h2
            exact kc_lt.1 hc
          · exact HR.out t y (by omega) h2)
        go_wp2
        go_roundw
        case rel => exact ⟨k + 1, by omega, by go_num, HR2, HS2.out⟩
        case measure => simp [nv]; omega
      · have HPK : Hid (posN Pr.k l key = k) := Lib.hid (pos_eq hk HR.out (fun t y h1 h2 => by
          have hk0 : kt x.k key = false := by
            cases e : kt x.k key with
            | false => rfl
            | true => exact absurd (kc_lt.2 e) hc
          by_cases e : t = k
          · subst e
            rw [HX.out] at h2
            simp only [Option.some.injEq] at h2
            subst h2
            exact hk0
          · cases e2 : kt (Pr.k y) key with
            | false => rfl
            | true => exact absurd (kt_trans (HCR.out.lt' (show k < t by omega) HX.out h2) e2) (by rw [hk0]; simp)))
        have hc2 : decide (kc x.k key < 0) = false := decide_eq_false hc
        clear hAA
        have HF := Lib.hid (HEND.out HPK.out)
        clear HEND HPK HR
        have HW := Lib.hid (HS1.out.trans HS2.out)
        have HP1 : Hid (Sl encP 2 w2 (.slice A k c) lo) := Lib.hid (by have := (H.out.still HS2.out).pre hk; rwa [HF.out.1] at this)
        have HBW := Lib.hid HW.out.size
        have hlk : lo.length = k := by have := HF.out.1; rw [← this, List.length_take, Nat.min_eq_left hk]
        have hih : hi.length ≤ 800000 := by have := HF.out.2; rw [← this, List.length_drop]; omega
        have hkc : k ≤ c := by omega
        have hkl : (k : Int) ≤ (l.length : Int) := by omega
        have hlo8 : lo.length ≤ 800000 := by omega
        clear hlk hAe
        rcases (show c = 0 ∨ (c = k ∧ ¬ c = 0) ∨ (¬ c = k ∧ ¬ c = 0) by omega) with e | ⟨e, e0⟩ | ⟨e, e0⟩
        · have HP3 : Hid (Sl encP 2 w2 (.slice A 0 0) hi) := Lib.hid (by
            have e3 : hi = [] := by rw [← HF.out.2, List.drop_eq_nil_of_le (by omega)]
            rw [e3]
            exact Sl.nil A 0 (by omega))
          have hl0 : l.length = 0 := by omega
          obtain rfl : k = 0 := by omega
          subst e
          clear hlt hk hkl
          go_wp2_with (at_builtin; refine wpList_append_any (enc := encP) rfl _ _ 27 rfl w2.heap.size 47 i0 (.agg #[.string ⟨#[]⟩, .string ⟨#[]⟩]) 2 32 under27_ HI.out hz0 hz1 hz2 rfl (by decide) lenP _ 0 [] rfl (World.ownsRow_made w2 #[] 0 (Nat.le_refl _) (Nat.zero_le _) (by simp)) A 0 0 lo rfl (HP1.out.still (Chg.alloc _ _)) (oneP _) (by unfold maxLen; (try simp only [List.length_append, List.length_singleton]); omega) (by (try simp only [List.length_append, List.length_singleton]); omega) ((Chg.alloc (S := fun _ => False) _ _).size) ?_)
          intro v2 wa hown hg
          have HOa : Hid (wa.ownsRow w2.heap.size 47 2 v2 lo.length (lo.flatMap encP)) := Lib.hid (by simpa using hown)
          have HTa := Lib.hid (still_grown (sz := 2) ((Chg.refl (fun _ => False) w2).allocs _) (World.ownsRow_made w2 #[] 0 (Nat.le_refl _) (Nat.zero_le _) (by simp)) (Nat.le_refl _) hg)
          clear hown hg
          go_wp2_with (at_builtin; refine wpList_append_any (enc := encP) rfl _ _ 27 rfl w2.heap.size 47 i0 (.agg #[.string ⟨#[]⟩, .string ⟨#[]⟩]) 2 32 under27_ HI.out hz0 hz1 hz2 rfl (by decide) lenP _ lo.length (lo.flatMap encP) rfl (own_still HOa.out (Chg.alloc _ _)) (some ⟨wa.heap.size, 0, none⟩) 1 1 [(⟨key, val⟩ : Pr)] rfl (one_sl lenP wa (⟨key, val⟩ : Pr) 47 #[.string key.1, .string val.1] rfl) (oneP _) (by unfold maxLen; (try simp only [List.length_append, List.length_singleton]); omega) (by (try simp only [List.length_append, List.length_singleton]); omega) (Nat.le_trans HTa.out.size (Chg.alloc (S := fun _ => False) _ _).size) ?_)
          intro v3 wb hown hg
          have HTb := Lib.hid (still_grown (HTa.out.allocs _) (own_still HOa.out (Chg.alloc _ _)) (Nat.le_refl _) hg)
          have HOb : Hid (wb.ownsRow w2.heap.size 47 2 v3 (lo ++ [(⟨key, val⟩ : Pr)]).length ((lo ++ [(⟨key, val⟩ : Pr)]).flatMap encP)) := Lib.hid (by rw [List.length_append, List.flatMap_append]; exact hown)
          clear hown hg
          go_wp2_with (at_builtin; refine wpList_append_any (enc := encP) rfl _ _ 27 rfl w2.heap.size 47 i0 (.agg #[.string ⟨#[]⟩, .string ⟨#[]⟩]) 2 32 under27_ HI.out hz0 hz1 hz2 rfl (by decide) lenP _ (lo ++ [(⟨key, val⟩ : Pr)]).length ((lo ++ [(⟨key, val⟩ : Pr)]).flatMap encP) rfl HOb.out A 0 0 hi rfl (HP3.out.still HTb.out) (oneP _) (by unfold maxLen; (try simp only [List.length_append, List.length_singleton]); omega) (by (try simp only [List.length_append, List.length_singleton]); omega) HTb.out.size ?_)
          intro v4 wc hown hg
          have HTc := Lib.hid (still_grown HTb.out HOb.out (Nat.le_refl _) hg)
          have HOc : Hid (wc.ownsRow w2.heap.size 47 2 v4 (lo ++ (⟨key, val⟩ : Pr) :: hi).length ((lo ++ (⟨key, val⟩ : Pr) :: hi).flatMap encP)) := Lib.hid (by
            rw [show lo ++ (⟨key, val⟩ : Pr) :: hi = (lo ++ [(⟨key, val⟩ : Pr)]) ++ hi by simp, List.length_append, List.flatMap_append]
            simpa using hown)
          clear hown hg
          go_wp2
          go_ret
          exact ⟨_, rfl, own_slf lenP (by decide) HOc.out HW.out.size, HW.out.trans HTc.out⟩
        · have HP3 : Hid (Sl encP 2 w2 (.slice A 0 0) hi) := Lib.hid (by
            have e3 : hi = [] := by rw [← HF.out.2, List.drop_eq_nil_of_le (by omega)]
            rw [e3]
            exact Sl.nil A 0 (by omega))
          have hl0 : l.length = c := by omega
          obtain rfl : k = c := e.symm
          clear hlt hk hkl e
          go_wp2_with (at_builtin; refine wpList_append_any (enc := encP) rfl _ _ 27 rfl w2.heap.size 47 i0 (.agg #[.string ⟨#[]⟩, .string ⟨#[]⟩]) 2 32 under27_ HI.out hz0 hz1 hz2 rfl (by decide) lenP _ 0 [] rfl (World.ownsRow_made w2 #[] 0 (Nat.le_refl _) (Nat.zero_le _) (by simp)) A k k lo rfl (HP1.out.still (Chg.alloc _ _)) (oneP _) (by unfold maxLen; (try simp only [List.length_append, List.length_singleton]); omega) (by (try simp only [List.length_append, List.length_singleton]); omega) ((Chg.alloc (S := fun _ => False) _ _).size) ?_)
          intro v2 wa hown hg
          have HOa : Hid (wa.ownsRow w2.heap.size 47 2 v2 lo.length (lo.flatMap encP)) := Lib.hid (by simpa using hown)
          have HTa := Lib.hid (still_grown (sz := 2) ((Chg.refl (fun _ => False) w2).allocs _) (World.ownsRow_made w2 #[] 0 (Nat.le_refl _) (Nat.zero_le _) (by simp)) (Nat.le_refl _) hg)
          clear hown hg
          go_wp2_with (at_builtin; refine wpList_append_any (enc := encP) rfl _ _ 27 rfl w2.heap.size 47 i0 (.agg #[.string ⟨#[]⟩, .string ⟨#[]⟩]) 2 32 under27_ HI.out hz0 hz1 hz2 rfl (by decide) lenP _ lo.length (lo.flatMap encP) rfl (own_still HOa.out (Chg.alloc _ _)) (some ⟨wa.heap.size, 0, none⟩) 1 1 [(⟨key, val⟩ : Pr)] rfl (one_sl lenP wa (⟨key, val⟩ : Pr) 47 #[.string key.1, .string val.1] rfl) (oneP _) (by unfold maxLen; (try simp only [List.length_append, List.length_singleton]); omega) (by (try simp only [List.length_append, List.length_singleton]); omega) (Nat.le_trans HTa.out.size (Chg.alloc (S := fun _ => False) _ _).size) ?_)
          intro v3 wb hown hg
          have HTb := Lib.hid (still_grown (HTa.out.allocs _) (own_still HOa.out (Chg.alloc _ _)) (Nat.le_refl _) hg)
          have HOb : Hid (wb.ownsRow w2.heap.size 47 2 v3 (lo ++ [(⟨key, val⟩ : Pr)]).length ((lo ++ [(⟨key, val⟩ : Pr)]).flatMap encP)) := Lib.hid (by rw [List.length_append, List.flatMap_append]; exact hown)
          clear hown hg
          go_wp2_with (at_builtin; refine wpList_append_any (enc := encP) rfl _ _ 27 rfl w2.heap.size 47 i0 (.agg #[.string ⟨#[]⟩, .string ⟨#[]⟩]) 2 32 under27_ HI.out hz0 hz1 hz2 rfl (by decide) lenP _ (lo ++ [(⟨key, val⟩ : Pr)]).length ((lo ++ [(⟨key, val⟩ : Pr)]).flatMap encP) rfl HOb.out A 0 0 hi rfl (HP3.out.still HTb.out) (oneP _) (by unfold maxLen; (try simp only [List.length_append, List.length_singleton]); omega) (by (try simp only [List.length_append, List.length_singleton]); omega) HTb.out.size ?_)
          intro v4 wc hown hg
          have HTc := Lib.hid (still_grown HTb.out HOb.out (Nat.le_refl _) hg)
          have HOc : Hid (wc.ownsRow w2.heap.size 47 2 v4 (lo ++ (⟨key, val⟩ : Pr) :: hi).length ((lo ++ (⟨key, val⟩ : Pr) :: hi).flatMap encP)) := Lib.hid (by
            rw [show lo ++ (⟨key, val⟩ : Pr) :: hi = (lo ++ [(⟨key, val⟩ : Pr)]) ++ hi by simp, List.length_append, List.flatMap_append]
            simpa using hown)
          clear hown hg
          go_wp2
          go_ret
          exact ⟨_, rfl, own_slf lenP (by decide) HOc.out HW.out.size, HW.out.trans HTc.out⟩
        · have HP3 : Hid (Sl encP 2 w2 (.slice (Option.map (fun x => x.add (k * 2)) A) (l.length - k) (c - k)) hi) := Lib.hid (by
            have := (H.out.still HS2.out).cutA (p := k) (q := l.length) hk (Nat.le_refl _)
            rw [if_neg e, List.take_of_length_le (by rw [List.length_drop]; exact Nat.le_refl _), HF.out.2] at this
            exact this)
          have HLT := Lib.hid hlt
          clear hlt
          go_wp2_with (at_builtin; refine wpList_append_any (enc := encP) rfl _ _ 27 rfl w2.heap.size 47 i0 (.agg #[.string ⟨#[]⟩, .string ⟨#[]⟩]) 2 32 under27_ HI.out hz0 hz1 hz2 rfl (by decide) lenP _ 0 [] rfl (World.ownsRow_made w2 #[] 0 (Nat.le_refl _) (Nat.zero_le _) (by simp)) A k c lo rfl (HP1.out.still (Chg.alloc _ _)) (oneP _) (by unfold maxLen; (try simp only [List.length_append, List.length_singleton]); omega) (by (try simp only [List.length_append, List.length_singleton]); omega) ((Chg.alloc (S := fun _ => False) _ _).size) ?_)
          intro v2 wa hown hg
          have HOa : Hid (wa.ownsRow w2.heap.size 47 2 v2 lo.length (lo.flatMap encP)) := Lib.hid (by simpa using hown)
          have HTa := Lib.hid (still_grown (sz := 2) ((Chg.refl (fun _ => False) w2).allocs _) (World.ownsRow_made w2 #[] 0 (Nat.le_refl _) (Nat.zero_le _) (by simp)) (Nat.le_refl _) hg)
          clear hown hg
          go_wp2_with (at_builtin; refine wpList_append_any (enc := encP) rfl _ _ 27 rfl w2.heap.size 47 i0 (.agg #[.string ⟨#[]⟩, .string ⟨#[]⟩]) 2 32 under27_ HI.out hz0 hz1 hz2 rfl (by decide) lenP _ lo.length (lo.flatMap encP) rfl (own_still HOa.out (Chg.alloc _ _)) (some ⟨wa.heap.size, 0, none⟩) 1 1 [(⟨key, val⟩ : Pr)] rfl (one_sl lenP wa (⟨key, val⟩ : Pr) 47 #[.string key.1, .string val.1] rfl) (oneP _) (by unfold maxLen; (try simp only [List.length_append, List.length_singleton]); omega) (by (try simp only [List.length_append, List.length_singleton]); omega) (Nat.le_trans HTa.out.size (Chg.alloc (S := fun _ => False) _ _).size) ?_)
          intro v3 wb hown hg
          have HTb := Lib.hid (still_grown (HTa.out.allocs _) (own_still HOa.out (Chg.alloc _ _)) (Nat.le_refl _) hg)
          have HOb : Hid (wb.ownsRow w2.heap.size 47 2 v3 (lo ++ [(⟨key, val⟩ : Pr)]).length ((lo ++ [(⟨key, val⟩ : Pr)]).flatMap encP)) := Lib.hid (by rw [List.length_append, List.flatMap_append]; exact hown)
          clear hown hg
          go_wp2_with (at_builtin; refine wpList_append_any (enc := encP) rfl _ _ 27 rfl w2.heap.size 47 i0 (.agg #[.string ⟨#[]⟩, .string ⟨#[]⟩]) 2 32 under27_ HI.out hz0 hz1 hz2 rfl (by decide) lenP _ (lo ++ [(⟨key, val⟩ : Pr)]).length ((lo ++ [(⟨key, val⟩ : Pr)]).flatMap encP) rfl HOb.out (Option.map (fun x => x.add (k * 2)) A) (l.length - k) (c - k) hi rfl (HP3.out.still HTb.out) (oneP _) (by unfold maxLen; (try simp only [List.length_append, List.length_singleton]); omega) (by (try simp only [List.length_append, List.length_singleton]); omega) HTb.out.size ?_)
          intro v4 wc hown hg
          have HTc := Lib.hid (still_grown HTb.out HOb.out (Nat.le_refl _) hg)
          have HOc : Hid (wc.ownsRow w2.heap.size 47 2 v4 (lo ++ (⟨key, val⟩ : Pr) :: hi).length ((lo ++ (⟨key, val⟩ : Pr) :: hi).flatMap encP)) := Lib.hid (by
            rw [show lo ++ (⟨key, val⟩ : Pr) :: hi = (lo ++ [(⟨key, val⟩ : Pr)]) ++ hi by simp, List.length_append, List.flatMap_append]
            simpa using hown)
          clear hown hg
          go_wp2
          go_ret
          exact ⟨_, rfl, own_slf lenP (by decide) HOc.out HW.out.size, HW.out.trans HTc.out⟩
    · have HPK : Hid (posN Pr.k l key = k) := Lib.hid (pos_eq hk HR.out (fun t y h1 h2 => by
        have := (List.getElem?_eq_some_iff.1 h2).1
        omega))
      have HF := Lib.hid (HEND.out HPK.out)
      clear HEND HPK HR
      have HW := Lib.hid (HS1.out.trans HS.out)
      have HP1 : Hid (Sl encP 2 wr (.slice A k c) lo) := Lib.hid (by have := (H.out.still HS.out).pre hk; rwa [HF.out.1] at this)
      have HBW := Lib.hid HW.out.size
      have hlk : lo.length = k := by have := HF.out.1; rw [← this, List.length_take, Nat.min_eq_left hk]
      have hih : hi.length ≤ 800000 := by have := HF.out.2; rw [← this, List.length_drop]; omega
      have hkc : k ≤ c := by omega
      have hkl : (k : Int) ≤ (l.length : Int) := by omega
      have hlo8 : lo.length ≤ 800000 := by omega
      clear hlk 
      rcases (show c = 0 ∨ (c = k ∧ ¬ c = 0) ∨ (¬ c = k ∧ ¬ c = 0) by omega) with e | ⟨e, e0⟩ | ⟨e, e0⟩
      · have HP3 : Hid (Sl encP 2 wr (.slice A 0 0) hi) := Lib.hid (by
          have e3 : hi = [] := by rw [← HF.out.2, List.drop_eq_nil_of_le (by omega)]
          rw [e3]
          exact Sl.nil A 0 (by omega))
        have hl0 : l.length = 0 := by omega
        obtain rfl : k = 0 := by omega
        subst e
        clear hlt hk hkl
        go_wp2_with (at_builtin; refine wpList_append_any (enc := encP) rfl _ _ 27 rfl wr.heap.size 47 i0 (.agg #[.string ⟨#[]⟩, .string ⟨#[]⟩]) 2 32 under27_ HI.out hz0 hz1 hz2 rfl (by decide) lenP _ 0 [] rfl (World.ownsRow_made wr #[] 0 (Nat.le_refl _) (Nat.zero_le _) (by simp)) A 0 0 lo rfl (HP1.out.still (Chg.alloc _ _)) (oneP _) (by unfold maxLen; (try simp only [List.length_append, List.length_singleton]); omega) (by (try simp only [List.length_append, List.length_singleton]); omega) ((Chg.alloc (S := fun _ => False) _ _).size) ?_)
        intro v2 wa hown hg
        have HOa : Hid (wa.ownsRow wr.heap.size 47 2 v2 lo.length (lo.flatMap encP)) := Lib.hid (by simpa using hown)
        have HTa := Lib.hid (still_grown (sz := 2) ((Chg.refl (fun _ => False) wr).allocs _) (World.ownsRow_made wr #[] 0 (Nat.le_refl _) (Nat.zero_le _) (by simp)) (Nat.le_refl _) hg)
        clear hown hg
        go_wp2_with (at_builtin; refine wpList_append_any (enc := encP) rfl _ _ 27 rfl wr.heap.size 47 i0 (.agg #[.string ⟨#[]⟩, .string ⟨#[]⟩]) 2 32 under27_ HI.out hz0 hz1 hz2 rfl (by decide) lenP _ lo.length (lo.flatMap encP) rfl (own_still HOa.out (Chg.alloc _ _)) (some ⟨wa.heap.size, 0, none⟩) 1 1 [(⟨key, val⟩ : Pr)] rfl (one_sl lenP wa (⟨key, val⟩ : Pr) 47 #[.string key.1, .string val.1] rfl) (oneP _) (by unfold maxLen; (try simp only [List.length_append, List.length_singleton]); omega) (by (try simp only [List.length_append, List.length_singleton]); omega) (Nat.le_trans HTa.out.size (Chg.alloc (S := fun _ => False) _ _).size) ?_)
        intro v3 wb hown hg
        have HTb := Lib.hid (still_grown (HTa.out.allocs _) (own_still HOa.out (Chg.alloc _ _)) (Nat.le_refl _) hg)
        have HOb : Hid (wb.ownsRow wr.heap.size 47 2 v3 (lo ++ [(⟨key, val⟩ : Pr)]).length ((lo ++ [(⟨key, val⟩ : Pr)]).flatMap encP)) := Lib.hid (by rw [List.length_append, List.flatMap_append]; exact hown)
        clear hown hg
        go_wp2_with (at_builtin; refine wpList_append_any (enc := encP) rfl _ _ 27 rfl wr.heap.size 47 i0 (.agg #[.string ⟨#[]⟩, .string ⟨#[]⟩]) 2 32 under27_ HI.out hz0 hz1 hz2 rfl (by decide) lenP _ (lo ++ [(⟨key, val⟩ : Pr)]).length ((lo ++ [(⟨key, val⟩ : Pr)]).flatMap encP) rfl HOb.out A 0 0 hi rfl (HP3.out.still HTb.out) (oneP _) (by unfold maxLen; (try simp only [List.length_append, List.length_singleton]); omega) (by (try simp only [List.length_append, List.length_singleton]); omega) HTb.out.size ?_)
        intro v4 wc hown hg
        have HTc := Lib.hid (still_grown HTb.out HOb.out (Nat.le_refl _) hg)
        have HOc : Hid (wc.ownsRow wr.heap.size 47 2 v4 (lo ++ (⟨key, val⟩ : Pr) :: hi).length ((lo ++ (⟨key, val⟩ : Pr) :: hi).flatMap encP)) := Lib.hid (by
          rw [show lo ++ (⟨key, val⟩ : Pr) :: hi = (lo ++ [(⟨key, val⟩ : Pr)]) ++ hi by simp, List.length_append, List.flatMap_append]
          simpa using hown)
        clear hown hg
        go_wp2
        go_ret
        exact ⟨_, rfl, own_slf lenP (by decide) HOc.out HW.out.size, HW.out.trans HTc.out⟩
      · have HP3 : Hid (Sl encP 2 wr (.slice A 0 0) hi) := Lib.hid (by
          have e3 : hi = [] := by rw [← HF.out.2, List.drop_eq_nil_of_le (by omega)]
          rw [e3]
          exact Sl.nil A 0 (by omega))
        have hl0 : l.length = c := by omega
        obtain rfl : k = c := e.symm
        clear hlt hk hkl e
        go_wp2_with (at_builtin; refine wpList_append_any (enc := encP) rfl _ _ 27 rfl wr.heap.size 47 i0 (.agg #[.string ⟨#[]⟩, .string ⟨#[]⟩]) 2 32 under27_ HI.out hz0 hz1 hz2 rfl (by decide) lenP _ 0 [] rfl (World.ownsRow_made wr #[] 0 (Nat.le_refl _) (Nat.zero_le _) (by simp)) A k k lo rfl (HP1.out.still (Chg.alloc _ _)) (oneP _) (by unfold maxLen; (try simp only [List.length_append, List.length_singleton]); omega) (by (try simp only [List.length_append, List.length_singleton]); omega) ((Chg.alloc (S := fun _ => False) _ _).size) ?_)
        intro v2 wa hown hg
        have HOa : Hid (wa.ownsRow wr.heap.size 47 2 v2 lo.length (lo.flatMap encP)) := Lib.hid (by simpa using hown)
        have HTa := Lib.hid (still_grown (sz := 2) ((Chg.refl (fun _ => False) wr).allocs _) (World.ownsRow_made wr #[] 0 (Nat.le_refl _) (Nat.zero_le _) (by simp)) (Nat.le_refl _) hg)
        clear hown hg
        go_wp2_with (at_builtin; refine wpList_append_any (enc := encP) rfl _ _ 27 rfl wr.heap.size 47 i0 (.agg #[.string ⟨#[]⟩, .string ⟨#[]⟩]) 2 32 under27_ HI.out hz0 hz1 hz2 rfl (by decide) lenP _ lo.length (lo.flatMap encP) rfl (own_still HOa.out (Chg.alloc _ _)) (some ⟨wa.heap.size, 0, none⟩) 1 1 [(⟨key, val⟩ : Pr)] rfl (one_sl lenP wa (⟨key, val⟩ : Pr) 47 #[.string key.1, .string val.1] rfl) (oneP _) (by unfold maxLen; (try simp only [List.length_append, List.length_singleton]); omega) (by (try simp only [List.length_append, List.length_singleton]); omega) (Nat.le_trans HTa.out.size (Chg.alloc (S := fun _ => False) _ _).size) ?_)
        intro v3 wb hown hg
        have HTb := Lib.hid (still_grown (HTa.out.allocs _) (own_still HOa.out (Chg.alloc _ _)) (Nat.le_refl _) hg)
        have HOb : Hid (wb.ownsRow wr.heap.size 47 2 v3 (lo ++ [(⟨key, val⟩ : Pr)]).length ((lo ++ [(⟨key, val⟩ : Pr)]).flatMap encP)) := Lib.hid (by rw [List.length_append, List.flatMap_append]; exact hown)
        clear hown hg
        go_wp2_with (at_builtin; refine wpList_append_any (enc := encP) rfl _ _ 27 rfl wr.heap.size 47 i0 (.agg #[.string ⟨#[]⟩, .string ⟨#[]⟩]) 2 32 under27_ HI.out hz0 hz1 hz2 rfl (by decide) lenP _ (lo ++ [(⟨key, val⟩ : Pr)]).length ((lo ++ [(⟨key, val⟩ : Pr)]).flatMap encP) rfl HOb.out A 0 0 hi rfl (HP3.out.still HTb.out) (oneP _) (by unfold maxLen; (try simp only [List.length_append, List.length_singleton]); omega) (by (try simp only [List.length_append, List.length_singleton]); omega) HTb.out.size ?_)
        intro v4 wc hown hg
        have HTc := Lib.hid (still_grown HTb.out HOb.out (Nat.le_refl _) hg)
        have HOc : Hid (wc.ownsRow wr.heap.size 47 2 v4 (lo ++ (⟨key, val⟩ : Pr) :: hi).length ((lo ++ (⟨key, val⟩ : Pr) :: hi).flatMap encP)) := Lib.hid (by
          rw [show lo ++ (⟨key, val⟩ : Pr) :: hi = (lo ++ [(⟨key, val⟩ : Pr)]) ++ hi by simp, List.length_append, List.flatMap_append]
          simpa using hown)
        clear hown hg
        go_wp2
        go_ret
        exact ⟨_, rfl, own_slf lenP (by decide) HOc.out HW.out.size, HW.out.trans HTc.out⟩
      · have HP3 : Hid (Sl encP 2 wr (.slice (Option.map (fun x => x.add (k * 2)) A) (l.length - k) (c - k)) hi) := Lib.hid (by
          have := (H.out.still HS.out).cutA (p := k) (q := l.length) hk (Nat.le_refl _)
          rw [if_neg e, List.take_of_length_le (by rw [List.length_drop]; exact Nat.le_refl _), HF.out.2] at this
          exact this)
        have HLT := Lib.hid hlt
        clear hlt
        go_wp2_with (at_builtin; refine wpList_append_any (enc := encP) rfl _ _ 27 rfl wr.heap.size 47 i0 (.agg #[.string ⟨#[]⟩, .string ⟨#[]⟩]) 2 32 under27_ HI.out hz0 hz1 hz2 rfl (by decide) lenP _ 0 [] rfl (World.ownsRow_made wr #[] 0 (Nat.le_refl _) (Nat.zero_le _) (by simp)) A k c lo rfl (HP1.out.still (Chg.alloc _ _)) (oneP _) (by unfold maxLen; (try simp only [List.length_append, List.length_singleton]); omega) (by (try simp only [List.length_append, List.length_singleton]); omega) ((Chg.alloc (S := fun _ => False) _ _).size) ?_)
        intro v2 wa hown hg
        have HOa : Hid (wa.ownsRow wr.heap.size 47 2 v2 lo.length (lo.flatMap encP)) := Lib.hid (by simpa using hown)
        have HTa := Lib.hid (still_grown (sz := 2) ((Chg.refl (fun _ => False) wr).allocs _) (World.ownsRow_made wr #[] 0 (Nat.le_refl _) (Nat.zero_le _) (by simp)) (Nat.le_refl _) hg)
        clear hown hg
        go_wp2_with (at_builtin; refine wpList_append_any (enc := encP) rfl _ _ 27 rfl wr.heap.size 47 i0 (.agg #[.string ⟨#[]⟩, .string ⟨#[]⟩]) 2 32 under27_ HI.out hz0 hz1 hz2 rfl (by decide) lenP _ lo.length (lo.flatMap encP) rfl (own_still HOa.out (Chg.alloc _ _)) (some ⟨wa.heap.size, 0, none⟩) 1 1 [(⟨key, val⟩ : Pr)] rfl (one_sl lenP wa (⟨key, val⟩ : Pr) 47 #[.string key.1, .string val.1] rfl) (oneP _) (by unfold maxLen; (try simp only [List.length_append, List.length_singleton]); omega) (by (try simp only [List.length_append, List.length_singleton]); omega) (Nat.le_trans HTa.out.size (Chg.alloc (S := fun _ => False) _ _).size) ?_)
        intro v3 wb hown hg
        have HTb := Lib.hid (still_grown (HTa.out.allocs _) (own_still HOa.out (Chg.alloc _ _)) (Nat.le_refl _) hg)
        have HOb : Hid (wb.ownsRow wr.heap.size 47 2 v3 (lo ++ [(⟨key, val⟩ : Pr)]).length ((lo ++ [(⟨key, val⟩ : Pr)]).flatMap encP)) := Lib.hid (by rw [List.length_append, List.flatMap_append]; exact hown)
        clear hown hg
        go_wp2_with (at_builtin; refine wpList_append_any (enc := encP) rfl _ _ 27 rfl wr.heap.size 47 i0 (.agg #[.string ⟨#[]⟩, .string ⟨#[]⟩]) 2 32 under27_ HI.out hz0 hz1 hz2 rfl (by decide) lenP _ (lo ++ [(⟨key, val⟩ : Pr)]).length ((lo ++ [(⟨key, val⟩ : Pr)]).flatMap encP) rfl HOb.out (Option.map (fun x => x.add (k * 2)) A) (l.length - k) (c - k) hi rfl (HP3.out.still HTb.out) (oneP _) (by unfold maxLen; (try simp only [List.length_append, List.length_singleton]); omega) (by (try simp only [List.length_append, List.length_singleton]); omega) HTb.out.size ?_)
        intro v4 wc hown hg
        have HTc := Lib.hid (still_grown HTb.out HOb.out (Nat.le_refl _) hg)
        have HOc : Hid (wc.ownsRow wr.heap.size 47 2 v4 (lo ++ (⟨key, val⟩ : Pr) :: hi).length ((lo ++ (⟨key, val⟩ : Pr) :: hi).flatMap encP)) := Lib.hid (by
          rw [show lo ++ (⟨key, val⟩ : Pr) :: hi = (lo ++ [(⟨key, val⟩ : Pr)]) ++ hi by simp, List.length_append, List.flatMap_append]
          simpa using hown)
        clear hown hg
        go_wp2
        go_ret
        exact ⟨_, rfl, own_slf lenP (by decide) HOc.out HW.out.size, HW.out.trans HTc.out⟩
end Go.Proofs.Ytekoibglogoaaaa
