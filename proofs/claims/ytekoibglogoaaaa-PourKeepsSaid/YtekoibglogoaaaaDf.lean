/- Merging buffers. -/
import Derived.Test.YtekoibglogoaaaaDe
import Derived.Laws.MakeOwn
namespace Go.Proofs.Ytekoibglogoaaaa
open Go Go.RowKit Go.Shelf
set_option linter.unusedVariables false
set_option linter.unusedSimpArgs false

def mergeL (ns os : List Msg) : List Msg :=
  match ns, os with
  | [], os => os
  | n :: ns, [] => n :: ns
  | n :: ns, o :: os => if kt o.k n.k then o :: mergeL (n :: ns) os else if n.k = o.k then n :: mergeL ns os else n :: mergeL ns (o :: os)
termination_by ns.length + os.length
theorem mergeL_nil_l (os : List Msg) : mergeL [] os = os := by unfold mergeL; rfl
theorem mergeL_nil_r (ns : List Msg) : mergeL ns [] = ns := by
  cases ns with
  | nil => exact mergeL_nil_l []
  | cons n ns => unfold mergeL; rfl
theorem mergeL_cons {ns os : List Msg} {n o : Msg} (hn : ns[0]? = some n) (ho : os[0]? = some o) :
    mergeL ns os = if kt o.k n.k then o :: mergeL ns (os.drop 1) else if n.k = o.k then n :: mergeL (ns.drop 1) (os.drop 1) else n :: mergeL (ns.drop 1) os := by
  cases ns with
  | nil => simp at hn
  | cons a ns =>
    cases os with
    | nil => simp at ho
    | cons b os =>
      simp only [List.getElem?_cons_zero, Option.some.injEq] at hn ho
      subst hn ho
      rw [mergeL]
      rfl
theorem compare_q (a b : K) (w : World) (n : Nat) : Calls Try.prog 49 #[.string a.1, .string b.1] (w.drewN n) fun e w'' => e = .returned (.int .i64 (kc a b)) ∧ ∃ m, w'' = w.drewN m :=
  (compare a b (w.drewN n)).mono (fun e w'' h => ⟨h.1, n, h.2.symm⟩)
/-- One element, as a slice of its own. -/
theorem one_sl {α : Type} {enc : α → List Value} {sz : Nat} (he : ∀ x, (enc x).length = sz) (w : World) (x : α) (ty : TypeId) (cs : Array Value) (h : cs = (enc x).toArray) : Sl enc sz (w.alloc (.cells cs ty)) (.slice (some ⟨w.heap.size, 0, none⟩) 1 1) [x] := by
  subst h
  refine ⟨_, 1, rfl, Nat.le_refl _, by omega, fun _ => ⟨w.heap.size, 0, rfl, by rw [size_al]; omega, fun i y hi j u hu => ?_⟩⟩
  have hi0 : i = 0 := by
    have := (List.getElem?_eq_some_iff.1 hi).1
    simp at this
    exact this
  subst hi0
  simp only [List.getElem?_cons_zero, Option.some.injEq] at hi
  subst hi
  simp only [Nat.zero_mul, Nat.zero_add]
  exact heap_cell (heap_alloc_new w _) (by simpa using hu)

def slN : Value → Nat | .slice _ n _ => n | _ => 0
set_option maxRecDepth 100000 in
set_option maxHeartbeats 2000000 in
theorem merge20 {w : World} {v1 v2 : Value} {xs ys : List Msg} (h1 : Sl encM 3 w v1 xs) (h2 : Sl encM 3 w v2 ys) (n1 : xs.length ≤ 1000000) (n2 : ys.length ≤ 1000000) :
    Calls Try.prog 20 #[v1, v2] w (ConcatP (mergeL xs ys) w) := by
  obtain ⟨A1, c1, rfl, qa1, qb1⟩ := h1.form
  obtain ⟨A2, c2, rfl, qa2, qb2⟩ := h2.form
  obtain ⟨N, hN⟩ : ∃ N, N = xs.length + ys.length := ⟨_, rfl⟩
  have hNi : (xs.length : Int) + (ys.length : Int) = (N : Int) := by omega
  have HN := Lib.hid hN
  have hNb : N ≤ 2000000 := by omega
  obtain ⟨i0, hi, hz0, hz1, hz2⟩ := info45_
  obtain ⟨w1, hmk, hown, hgr⟩ := run_make_own (P := Try.prog) w w.heap.size 26 45 i0 (.agg #[.string ⟨#[]⟩, .bool false, .string ⟨#[]⟩]) 3 under26_ hi hz0 hz1 .i64 .i64 N (by rw [hz2]; omega) (by unfold maxLen; omega) (Nat.le_refl _)
  have HO1 := Lib.hid hown
  have HS1 := Lib.hid ((Chg.refl (fun _ => False) w).grown hgr (by simp))
  have H1 := Lib.hid h1
  have H2 := Lib.hid h2
  have HI := Lib.hid hi
  clear hN hown hgr h1 h2 hi
  go_enter Try.func20, Try.ntmps20
  go_wp2_with fail
  go_loopw [0, 1, 5] (fun a b v wr => ∃ (ns os acc : List Msg), Hid (Sl encM 3 w a ns) ∧ Hid (Sl encM 3 w b os) ∧ Hid (wr.ownsRow w.heap.size 45 3 v acc.length (acc.flatMap encM)) ∧ Hid (mergeL xs ys = acc ++ mergeL ns os) ∧ acc.length + ns.length + os.length ≤ N ∧ Still w wr) (fun a b _ _ => slN a + slN b)
  case atStart => exact ⟨xs, ys, [], H1, H2, HO1, Lib.hid rfl, by rw [List.length_nil, Nat.zero_add, HN.out]; exact Nat.le_refl _, HS1.out⟩
  clear H1 H2 HO1 HS1 qa1 qa2 qb1 qb2 hNi n1 n2 HN hmk
  case round =>
    obtain ⟨ns, os, acc, HA, HB, HO, HM, hlen, hs⟩ := hrel
    have HS := Lib.hid hs
    clear hs
    obtain ⟨A, c, rfl, qa, qb⟩ := HA.out.form
    obtain ⟨A', c', rfl, qa', qb'⟩ := HB.out.form
    by_cases h0 : 0 < ns.length ∧ 0 < os.length
    · obtain ⟨hn0, ho0⟩ := h0
      obtain ⟨b, off, rfl, hb, x0, x1, x2⟩ := (HA.out.still HS.out).msg 0 hn0
      obtain ⟨b', off', rfl, hb', y0, y1, y2⟩ := (HB.out.still HS.out).msg 0 ho0
      simp only [Nat.zero_mul, Nat.add_zero] at x0 x1 x2 y0 y1 y2
      have HX := Lib.hid (ge_some hn0)
      have HY := Lib.hid (ge_some ho0)
      generalize ns[0] = n at x0 x1 x2 HX
      generalize os[0] = o at y0 y1 y2 HY
      have HMC := Lib.hid (mergeL_cons HX.out HY.out)
      have HA1 : Hid (Sl encM 3 w (.slice (if c = 1 then some ⟨b, off, none⟩ else some ⟨b, off + 3, none⟩) (ns.length - 1) (c - 1)) (ns.drop 1)) := Lib.hid (by
        have := HA.out.cutA (p := 1) (q := ns.length) hn0 (Nat.le_refl _)
        rw [show (ns.drop 1).take (ns.length - 1) = ns.drop 1 from List.take_of_length_le (by rw [List.length_drop]; exact Nat.le_refl _)] at this
        simpa only [Option.map_some, Addr.add_lit, Nat.one_mul] using this)
      have HB1 : Hid (Sl encM 3 w (.slice (if c' = 1 then some ⟨b', off', none⟩ else some ⟨b', off' + 3, none⟩) (os.length - 1) (c' - 1)) (os.drop 1)) := Lib.hid (by
        have := HB.out.cutA (p := 1) (q := os.length) ho0 (Nat.le_refl _)
        rw [show (os.drop 1).take (os.length - 1) = os.drop 1 from List.take_of_length_le (by rw [List.length_drop]; exact Nat.le_refl _)] at this
        simpa only [Option.map_some, Addr.add_lit, Nat.one_mul] using this)
      have HSN := Lib.hid (fun x : Msg => fun W : World => one_sl lenM W x 45 #[.string x.k.1, .bool x.d, .string x.v.1] rfl)
      go_wp2_with fail
      go_quiet ((go_at_call 49; exact compare_q n.k o.k wr _))
      have HSq := Lib.hid (Chg.drewN (S := fun _ => False) nq wr)
      have HWq := Lib.hid (HS.out.trans HSq.out)
      have z0 := HSq.out.cell x0 id
      have z1 := HSq.out.cell x1 id
      have z2 := HSq.out.cell x2 id
      have u0 := HSq.out.cell y0 id
      have u1 := HSq.out.cell y1 id
      have u2 := HSq.out.cell y2 id
      have HOq := Lib.hid (own_still HO.out HSq.out)
      clear x0 x1 x2 y0 y1 y2
      generalize wr.drewN nq = wq at *
      have hcs := kc_range n.k o.k
      have q1 : (1 : Int) ≤ (ns.length : Int) := by omega
      have q2 : (1 : Int) ≤ (os.length : Int) := by omega
      have q3 : (1 : Int) ≤ (c : Int) := by omega
      have q4 : (1 : Int) ≤ (c' : Int) := by omega
      rcases hcs with hc | hc | hc
      · have HMM : Hid (mergeL xs ys = (acc ++ [n]) ++ mergeL (ns.drop 1) os) := Lib.hid (by rw [HM.out, HMC.out, if_neg (by have := kt_asymm (kc_lt.1 (show kc n.k o.k < 0 by omega)); rw [this]; simp), if_neg (kt_ne (kc_lt.1 (show kc n.k o.k < 0 by omega))), List.append_assoc]; rfl)
        clear HMC HM
        go_wp2_with (at_builtin; refine wpList_append_any (enc := encM) rfl _ _ 26 rfl w.heap.size 45 i0 (.agg #[.string ⟨#[]⟩, .bool false, .string ⟨#[]⟩]) 3 40 under26_ HI.out hz0 hz1 hz2 rfl (by decide) lenM _ acc.length (acc.flatMap encM) rfl (own_still HOq.out (Chg.alloc _ _)) (some ⟨wq.heap.size, 0, none⟩) 1 1 [n] rfl (HSN.out n wq) (oneM _) (by unfold maxLen; rw [List.length_singleton]; omega) (by rw [List.length_singleton]; omega) (Nat.le_trans HWq.out.size (Chg.alloc (S := fun _ => False) _ _).size) ?_)
        intro v' w2 hown hg
        have HO2 : Hid (w2.ownsRow w.heap.size 45 3 v' (acc ++ [n]).length ((acc ++ [n]).flatMap encM)) := Lib.hid (by rw [List.length_append, List.flatMap_append]; exact hown)
        have HS2 := Lib.hid (still_grown (HWq.out.allocs _) (own_still HOq.out (Chg.alloc _ _)) (Nat.le_refl _) hg)
        have hlen2 : (acc ++ [n]).length + (ns.drop 1).length + os.length ≤ N := by simp only [List.length_append, List.length_singleton, List.length_drop]; omega
        clear hown hg z0 z1 z2 u0 u1 u2
        go_wp2
        go_roundw
        case rel => exact ⟨(ns.drop 1), os, acc ++ [n], HA1, HB, HO2, HMM, hlen2, HS2.out⟩
        case measure => simp [slN]; omega
      · have HMM : Hid (mergeL xs ys = (acc ++ [n]) ++ mergeL (ns.drop 1) (os.drop 1)) := Lib.hid (by rw [HM.out, HMC.out, if_neg (by rw [kc_zero.1 hc, kt_irr]; simp), if_pos (kc_zero.1 hc), List.append_assoc]; rfl)
        clear HMC HM
        have hc0 : kc n.k o.k = 0 := hc
        rcases Decidable.em (c' = 1) with e | e
        · have HB9 : Hid (Sl encM 3 w (.slice (some ⟨b', off', none⟩) 0 0) (os.drop 1)) := Lib.hid (by have := HB1.out; rw [e, if_pos rfl, show os.length = 1 by omega] at this; exact this)
          subst e
          go_wp2_with (at_builtin; refine wpList_append_any (enc := encM) rfl _ _ 26 rfl w.heap.size 45 i0 (.agg #[.string ⟨#[]⟩, .bool false, .string ⟨#[]⟩]) 3 40 under26_ HI.out hz0 hz1 hz2 rfl (by decide) lenM _ acc.length (acc.flatMap encM) rfl (own_still HOq.out (Chg.alloc _ _)) (some ⟨wq.heap.size, 0, none⟩) 1 1 [n] rfl (HSN.out n wq) (oneM _) (by unfold maxLen; rw [List.length_singleton]; omega) (by rw [List.length_singleton]; omega) (Nat.le_trans HWq.out.size (Chg.alloc (S := fun _ => False) _ _).size) ?_)
          intro v' w2 hown hg
          have HO2 : Hid (w2.ownsRow w.heap.size 45 3 v' (acc ++ [n]).length ((acc ++ [n]).flatMap encM)) := Lib.hid (by rw [List.length_append, List.flatMap_append]; exact hown)
          have HS2 := Lib.hid (still_grown (HWq.out.allocs _) (own_still HOq.out (Chg.alloc _ _)) (Nat.le_refl _) hg)
          have hlen2 : (acc ++ [n]).length + (ns.drop 1).length + (os.drop 1).length ≤ N := by simp only [List.length_append, List.length_singleton, List.length_drop]; omega
          clear hown hg z0 z1 z2 u0 u1 u2
          go_wp2
          go_roundw
          case rel => exact ⟨(ns.drop 1), (os.drop 1), acc ++ [n], HA1, HB9, HO2, HMM, hlen2, HS2.out⟩
          case measure => simp [slN]; omega
        · have HB1 : Hid (Sl encM 3 w (.slice (some ⟨b', off' + 3, none⟩) (os.length - 1) (c' - 1)) (os.drop 1)) := Lib.hid (by have := HB1.out; rwa [if_neg e] at this)
          go_wp2_with (at_builtin; refine wpList_append_any (enc := encM) rfl _ _ 26 rfl w.heap.size 45 i0 (.agg #[.string ⟨#[]⟩, .bool false, .string ⟨#[]⟩]) 3 40 under26_ HI.out hz0 hz1 hz2 rfl (by decide) lenM _ acc.length (acc.flatMap encM) rfl (own_still HOq.out (Chg.alloc _ _)) (some ⟨wq.heap.size, 0, none⟩) 1 1 [n] rfl (HSN.out n wq) (oneM _) (by unfold maxLen; rw [List.length_singleton]; omega) (by rw [List.length_singleton]; omega) (Nat.le_trans HWq.out.size (Chg.alloc (S := fun _ => False) _ _).size) ?_)
          intro v' w2 hown hg
          have HO2 : Hid (w2.ownsRow w.heap.size 45 3 v' (acc ++ [n]).length ((acc ++ [n]).flatMap encM)) := Lib.hid (by rw [List.length_append, List.flatMap_append]; exact hown)
          have HS2 := Lib.hid (still_grown (HWq.out.allocs _) (own_still HOq.out (Chg.alloc _ _)) (Nat.le_refl _) hg)
          have hlen2 : (acc ++ [n]).length + (ns.drop 1).length + (os.drop 1).length ≤ N := by simp only [List.length_append, List.length_singleton, List.length_drop]; omega
          clear hown hg z0 z1 z2 u0 u1 u2
          go_wp2
          go_roundw
          case rel => exact ⟨(ns.drop 1), (os.drop 1), acc ++ [n], HA1, HB1, HO2, HMM, hlen2, HS2.out⟩
          case measure => simp [slN]; omega
      · have HK : Hid (kt o.k n.k = true) := Lib.hid (kc_gt.1 (by omega))
        have HMM : Hid (mergeL xs ys = (acc ++ [o]) ++ mergeL ns (os.drop 1)) := Lib.hid (by rw [HM.out, HMC.out, if_pos HK.out, List.append_assoc]; rfl)
        clear HMC HM
        go_wp2_with (at_builtin; refine wpList_append_any (enc := encM) rfl _ _ 26 rfl w.heap.size 45 i0 (.agg #[.string ⟨#[]⟩, .bool false, .string ⟨#[]⟩]) 3 40 under26_ HI.out hz0 hz1 hz2 rfl (by decide) lenM _ acc.length (acc.flatMap encM) rfl (own_still HOq.out (Chg.alloc _ _)) (some ⟨wq.heap.size, 0, none⟩) 1 1 [o] rfl (HSN.out o wq) (oneM _) (by unfold maxLen; rw [List.length_singleton]; omega) (by rw [List.length_singleton]; omega) (Nat.le_trans HWq.out.size (Chg.alloc (S := fun _ => False) _ _).size) ?_)
        intro v' w2 hown hg
        have HO2 : Hid (w2.ownsRow w.heap.size 45 3 v' (acc ++ [o]).length ((acc ++ [o]).flatMap encM)) := Lib.hid (by rw [List.length_append, List.flatMap_append]; exact hown)
        have HS2 := Lib.hid (still_grown (HWq.out.allocs _) (own_still HOq.out (Chg.alloc _ _)) (Nat.le_refl _) hg)
        have hlen2 : (acc ++ [o]).length + ns.length + (os.drop 1).length ≤ N := by simp only [List.length_append, List.length_singleton, List.length_drop]; omega
        clear hown hg z0 z1 z2 u0 u1 u2
        go_wp2
        go_roundw
        case rel => exact ⟨ns, (os.drop 1), acc ++ [o], HA, HB1, HO2, HMM, hlen2, HS2.out⟩
        case measure => simp [slN]; omega
    · have HE : Hid (mergeL xs ys = acc ++ (ns ++ os)) := Lib.hid (by
        rw [HM.out]
        by_cases e : 0 < ns.length
        · have e2 : os = [] := List.eq_nil_of_length_eq_zero (by omega)
          subst e2
          rw [mergeL_nil_r, List.append_nil]
        · have e2 : ns = [] := List.eq_nil_of_length_eq_zero (by omega)
          subst e2
          rw [mergeL_nil_l, List.nil_append])
      have hex : decide (0 < ns.length) = false ∨ (decide (0 < ns.length) = true ∧ decide (0 < os.length) = false) := by
        simp only [decide_eq_false_iff_not, decide_eq_true_eq]
        omega
      clear HM h0
      rcases hex with hex | ⟨hex1, hex2⟩
      · go_wp2_with (at_builtin; refine wpList_append_any (enc := encM) rfl _ _ 26 rfl w.heap.size 45 i0 (.agg #[.string ⟨#[]⟩, .bool false, .string ⟨#[]⟩]) 3 40 under26_ HI.out hz0 hz1 hz2 rfl (by decide) lenM _ acc.length (acc.flatMap encM) rfl HO.out A ns.length c ns rfl (HA.out.still HS.out) (oneM _) (by unfold maxLen; omega) (by omega) HS.out.size ?_)
        intro v' w2 hown hg
        have HS2 := Lib.hid (still_grown HS.out HO.out (Nat.le_refl _) hg)
        have HB2 : Hid (Sl encM 3 w2 (.slice A' os.length c') os) := Lib.hid (HB.out.still HS2.out)
        have HO2 : Hid (w2.ownsRow w.heap.size 45 3 v' (acc ++ ns).length ((acc ++ ns).flatMap encM)) := Lib.hid (by rw [List.length_append, List.flatMap_append]; exact hown)
        clear hown hg
        go_wp2_with (at_builtin; refine wpList_append_any (enc := encM) rfl _ _ 26 rfl w.heap.size 45 i0 (.agg #[.string ⟨#[]⟩, .bool false, .string ⟨#[]⟩]) 3 40 under26_ HI.out hz0 hz1 hz2 rfl (by decide) lenM _ (acc ++ ns).length ((acc ++ ns).flatMap encM) rfl HO2.out A' os.length c' os rfl HB2.out (oneM _) (by unfold maxLen; rw [List.length_append]; omega) (by rw [List.length_append]; omega) HS2.out.size ?_)
        intro v3 w3 hown hg
        have HS3 := Lib.hid (still_grown HS2.out HO2.out (Nat.le_refl _) hg)
        have HO3 : Hid (w3.ownsRow w.heap.size 45 3 v3 (acc ++ (ns ++ os)).length ((acc ++ (ns ++ os)).flatMap encM)) := Lib.hid (by rw [List.length_append, List.length_append, ← Nat.add_assoc, List.flatMap_append, List.flatMap_append]; exact hown)
        clear hown hg
        go_wp2
        go_ret
        exact ⟨_, rfl, by rw [HE.out]; exact own_slf lenM (by decide) HO3.out (Nat.le_refl _), HS3.out⟩
      · go_wp2_with (at_builtin; refine wpList_append_any (enc := encM) rfl _ _ 26 rfl w.heap.size 45 i0 (.agg #[.string ⟨#[]⟩, .bool false, .string ⟨#[]⟩]) 3 40 under26_ HI.out hz0 hz1 hz2 rfl (by decide) lenM _ acc.length (acc.flatMap encM) rfl HO.out A ns.length c ns rfl (HA.out.still HS.out) (oneM _) (by unfold maxLen; omega) (by omega) HS.out.size ?_)
        intro v' w2 hown hg
        have HS2 := Lib.hid (still_grown HS.out HO.out (Nat.le_refl _) hg)
        have HB2 : Hid (Sl encM 3 w2 (.slice A' os.length c') os) := Lib.hid (HB.out.still HS2.out)
        have HO2 : Hid (w2.ownsRow w.heap.size 45 3 v' (acc ++ ns).length ((acc ++ ns).flatMap encM)) := Lib.hid (by rw [List.length_append, List.flatMap_append]; exact hown)
        clear hown hg
        go_wp2_with (at_builtin; refine wpList_append_any (enc := encM) rfl _ _ 26 rfl w.heap.size 45 i0 (.agg #[.string ⟨#[]⟩, .bool false, .string ⟨#[]⟩]) 3 40 under26_ HI.out hz0 hz1 hz2 rfl (by decide) lenM _ (acc ++ ns).length ((acc ++ ns).flatMap encM) rfl HO2.out A' os.length c' os rfl HB2.out (oneM _) (by unfold maxLen; rw [List.length_append]; omega) (by rw [List.length_append]; omega) HS2.out.size ?_)
        intro v3 w3 hown hg
        have HS3 := Lib.hid (still_grown HS2.out HO2.out (Nat.le_refl _) hg)
        have HO3 : Hid (w3.ownsRow w.heap.size 45 3 v3 (acc ++ (ns ++ os)).length ((acc ++ (ns ++ os)).flatMap encM)) := Lib.hid (by rw [List.length_append, List.length_append, ← Nat.add_assoc, List.flatMap_append, List.flatMap_append]; exact hown)
        clear hown hg
        go_wp2
        go_ret
        exact ⟨_, rfl, by rw [HE.out]; exact own_slf lenM (by decide) HO3.out (Nat.le_refl _), HS3.out⟩
end Go.Proofs.Ytekoibglogoaaaa
