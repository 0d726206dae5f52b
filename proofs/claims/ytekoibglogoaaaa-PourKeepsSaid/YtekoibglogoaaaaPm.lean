/- The plain law: the pouring answers as the document does. -/
import Derived.Test.YtekoibglogoaaaaEf
namespace Go.Proofs.Ytekoibglogoaaaa
open Go Go.RowKit Go.Shelf
set_option linter.unusedVariables false
set_option linter.unusedSimpArgs false

theorem prefix_count {α : Type} {P : α → Bool} : ∀ {xs : List α}, xs.Pairwise (fun a b => P b = true → P a = true) →
    (∀ t x, t < xs.countP P → xs[t]? = some x → P x = true) ∧ (∀ t x, xs.countP P ≤ t → xs[t]? = some x → P x = false)
  | [], _ => by simp
  | a :: xs, h => by
    obtain ⟨h1, h2⟩ := List.pairwise_cons.1 h
    obtain ⟨i1, i2⟩ := prefix_count h2
    cases ha : P a with
    | true =>
      have e : (a :: xs).countP P = xs.countP P + 1 := by rw [List.countP_cons, ha]; rfl
      rw [e]
      refine ⟨fun t x ht hx => ?_, fun t x ht hx => ?_⟩
      · cases t with
        | zero => simp only [List.getElem?_cons_zero, Option.some.injEq] at hx; subst hx; exact ha
        | succ t => exact i1 t x (by omega) (by simpa using hx)
      · cases t with
        | zero => omega
        | succ t => exact i2 t x (by omega) (by simpa using hx)
    | false =>
      have hn : ∀ y ∈ xs, P y = false := fun y hy => by
        cases e : P y with
        | false => rfl
        | true => rw [h1 y hy e] at ha; simp at ha
      have e : (a :: xs).countP P = 0 := by rw [List.countP_cons, ha, count_none hn]; rfl
      rw [e]
      refine ⟨fun t x ht hx => by omega, fun t x _ hx => ?_⟩
      cases t with
      | zero => simp only [List.getElem?_cons_zero, Option.some.injEq] at hx; subst hx; exact ha
      | succ t => exact hn x (List.mem_of_getElem? (by simpa using hx))
theorem k0_le (k : K) : ke k0 k = true := by unfold ke; rw [kt_empty]; rfl
/-- A key's way is a kid's just where the kid's span has the key. -/
theorem way_in {l : List K} (hr : Rises id l) {i : Nat} (hi : i ≤ l.length) (key : K) : inSp (spanAt l i) key = decide (wayN l key = i) := by
  have hpw := hr.pw
  have hmono : l.Pairwise (fun a b => ke b key = true → ke a key = true) := hpw.imp (fun h hb => ke_trans (ke_iff.2 (.inl h)) hb)
  obtain ⟨c1, c2⟩ := prefix_count hmono
  have hle := wayN_le l key
  change ∀ t x, t < wayN l key → l[t]? = some x → ke x key = true at c1
  change ∀ t x, wayN l key ≤ t → l[t]? = some x → ke x key = false at c2
  have hlo : ke (spanAt l i).lo key = decide (i ≤ wayN l key) := by
    unfold spanAt
    simp only
    by_cases h0 : 0 < i
    · rw [if_pos h0]
      have hx := ge_some (show i - 1 < l.length by omega)
      rw [List.getD_eq_getElem?_getD, hx, Option.getD_some]
      by_cases hc : i ≤ wayN l key
      · rw [decide_eq_true hc, c1 (i - 1) _ (by omega) hx]
      · rw [decide_eq_false hc, c2 (i - 1) _ (by omega) hx]
    · rw [if_neg h0, k0_le, decide_eq_true (by omega)]
  have hhi : ((spanAt l i).top || kt key (spanAt l i).hi) = decide (wayN l key ≤ i) := by
    unfold spanAt
    simp only
    by_cases h0 : i < l.length
    · rw [if_pos h0, decide_eq_false (by omega), Bool.false_or]
      have hx := ge_some h0
      rw [List.getD_eq_getElem?_getD, hx, Option.getD_some]
      by_cases hc : wayN l key ≤ i
      · rw [decide_eq_true hc]
        have := c2 i _ hc hx
        unfold ke at this
        simpa using this
      · rw [decide_eq_false hc]
        have := c1 i _ (by omega) hx
        unfold ke at this
        simpa using this
    · rw [decide_eq_true (show i = l.length by omega), Bool.true_or, decide_eq_true (by omega)]
  unfold inSp
  rw [hlo, hhi, ← Bool.decide_and]
  congr 1
  apply propext
  omega
theorem span_full {l : List K} (hr : Rises id l) (hk : ∀ (i : Nat) (k : K), l[i]? = some k → k ≠ k0) {i : Nat} (hi : i ≤ l.length) : emptySp (spanAt l i) = false := by
  have hw := way_in hr hi (spanAt l i).lo
  unfold emptySp
  cases ht : (spanAt l i).top with
  | true => simp
  | false =>
    have hlt : i < l.length := by
      unfold spanAt at ht
      simp only [decide_eq_false_iff_not] at ht
      omega
    have hx := ge_some hlt
    have hhi : (spanAt l i).hi = l[i] := by unfold spanAt; simp only; rw [if_pos hlt, List.getD_eq_getElem?_getD, hx]; rfl
    have hlo : kt (spanAt l i).lo l[i] = true := by
      unfold spanAt
      simp only
      by_cases h0 : 0 < i
      · rw [if_pos h0]
        have hx2 := ge_some (show i - 1 < l.length by omega)
        rw [List.getD_eq_getElem?_getD, hx2, Option.getD_some]
        exact hr.lt' (show i - 1 < i by omega) hx2 hx
      · rw [if_neg h0]
        have hne := hk i _ hx
        cases e : kt k0 l[i] with
        | true => rfl
        | false => exact absurd (kt_total (kt_empty _) e) hne
    rw [hhi]
    simp only [Bool.not_false, Bool.true_and]
    unfold ke
    rw [hlo]
    rfl
theorem spanR_in_range {l : List K} (hr : Rises id l) (hk : ∀ (i : Nat) (k : K), l[i]? = some k → k ≠ k0) {i : Nat} (hi : i ≤ l.length) : spanR l (i : Nat) = (spanAt l i, true) := by
  unfold spanR
  rw [if_neg (by omega), Int.toNat_natCast, span_full hr hk hi]
  rfl
/-- The messages of a span stand together. -/
theorem part_in {s : Sp} {xs : List Msg} (hr : Rises Msg.k xs) (he : emptySp s = false) :
    (∀ m ∈ xs.take (partA s xs), inSp s m.k = false) ∧ (∀ m ∈ (xs.drop (partA s xs)).take (partB s xs - partA s xs), inSp s m.k = true) ∧ (∀ m ∈ xs.drop (partB s xs), inSp s m.k = false) := by
  have hpw := hr.pw
  have hm : ∀ key, xs.Pairwise (fun a b => kt b.k key = true → kt a.k key = true) := fun key => hpw.imp (fun h hb => kt_trans h hb)
  have hab := partA_le s xs
  have hbn := partB_le s xs
  have eA : partA s xs = posN Msg.k xs s.lo := by unfold partA; rw [he]; rfl
  have eB : partB s xs = if s.top then xs.length else posN Msg.k xs s.hi := by unfold partB; rw [he]; rfl
  obtain ⟨a1, a2⟩ := prefix_count (hm s.lo)
  obtain ⟨b1, b2⟩ := prefix_count (hm s.hi)
  change ∀ t x, t < posN Msg.k xs s.lo → xs[t]? = some x → kt x.k s.lo = true at a1
  change ∀ t x, posN Msg.k xs s.lo ≤ t → xs[t]? = some x → kt x.k s.lo = false at a2
  change ∀ t x, t < posN Msg.k xs s.hi → xs[t]? = some x → kt x.k s.hi = true at b1
  change ∀ t x, posN Msg.k xs s.hi ≤ t → xs[t]? = some x → kt x.k s.hi = false at b2
  refine ⟨fun m hmem => ?_, fun m hmem => ?_, fun m hmem => ?_⟩
  · obtain ⟨t, ht, rfl⟩ := List.mem_iff_getElem.1 hmem
    rw [List.length_take] at ht
    rw [List.getElem_take]
    have := a1 t _ (by omega) (ge_some (by omega))
    unfold inSp ke
    rw [this]
    rfl
  · obtain ⟨t, ht, rfl⟩ := List.mem_iff_getElem.1 hmem
    rw [List.length_take, List.length_drop] at ht
    rw [List.getElem_take, List.getElem_drop]
    have h1 := a2 (partA s xs + t) _ (by omega) (ge_some (by omega))
    unfold inSp ke
    rw [h1]
    simp only [Bool.not_false, Bool.true_and]
    cases htp : s.top with
    | true => rfl
    | false =>
      rw [htp] at eB
      simp only [Bool.false_eq_true, if_false] at eB
      rw [b1 (partA s xs + t) _ (by omega) (ge_some (by omega))]
      rfl
  · obtain ⟨t, ht, rfl⟩ := List.mem_iff_getElem.1 hmem
    rw [List.length_drop] at ht
    rw [List.getElem_drop]
    unfold inSp
    cases htp : s.top with
    | true =>
      rw [htp] at eB
      simp only [if_true] at eB
      omega
    | false =>
      rw [htp] at eB
      simp only [Bool.false_eq_true, if_false] at eB
      rw [b2 (partB s xs + t) _ (by omega) (ge_some (by omega))]
      simp
theorem mergeL_pre (ns : List Msg) : ∀ (pre os : List Msg), (∀ a ∈ pre, ∀ n ∈ ns, kt a.k n.k = true) → mergeL ns (pre ++ os) = pre ++ mergeL ns os
  | [], os, _ => rfl
  | a :: pre, os, h => by
    cases ns with
    | nil => rw [mergeL_nil_l, mergeL_nil_l]
    | cons n ns =>
      rw [mergeL_cons (n := n) (o := a) rfl rfl, if_pos (h a (by simp) n (by simp))]
      show a :: mergeL (n :: ns) (pre ++ os) = _
      rw [mergeL_pre (n :: ns) pre os (fun x hx => h x (by simp [hx]))]
      rfl
theorem mergeL_lohi (n : Msg) (ns : List Msg) : ∀ {os : List Msg}, os.Pairwise (fun a b => kt a.k b.k = true) → mergeL (n :: ns) os = loL Msg.k os n.k ++ n :: mergeL ns (hiL Msg.k os n.k)
  | [], _ => by rw [mergeL_nil_r]; simp [loL, hiL, mergeL_nil_r]
  | o :: os, h => by
    obtain ⟨h1, h2⟩ := List.pairwise_cons.1 h
    rw [mergeL_cons (n := n) (o := o) rfl rfl]
    cases hk : kt o.k n.k with
    | true =>
      rw [if_pos rfl]
      have el : loL Msg.k (o :: os) n.k = o :: loL Msg.k os n.k := by unfold loL; rw [List.filter_cons, if_pos hk]
      have eh : hiL Msg.k (o :: os) n.k = hiL Msg.k os n.k := by unfold hiL; rw [List.filter_cons, if_neg (by rw [kt_asymm hk]; simp)]
      rw [el, eh, List.drop_succ_cons, List.drop_zero, mergeL_lohi n ns h2]
      rfl
    | false =>
      rw [if_neg (by simp)]
      obtain ⟨n1, n2⟩ := pw_none (f := Msg.k) h1 hk
      have el : loL Msg.k (o :: os) n.k = [] := by unfold loL; rw [List.filter_cons, if_neg (by rw [hk]; simp), filter_none n1]
      rw [el, List.nil_append]
      by_cases e : n.k = o.k
      · rw [if_pos e]
        have eh : hiL Msg.k (o :: os) n.k = os := by unfold hiL; rw [List.filter_cons, if_neg (by rw [e, kt_irr]; simp), filter_all n2]
        rw [eh]
        rfl
      · rw [if_neg e]
        have eh : hiL Msg.k (o :: os) n.k = o :: os := by unfold hiL; rw [List.filter_cons, if_pos (kt_of_le hk (Ne.symm e)), filter_all n2]
        rw [eh]
        rfl
theorem mergeL_fold : ∀ (ns : List Msg) {os : List Msg}, ns.Pairwise (fun a b => kt a.k b.k = true) → os.Pairwise (fun a b => kt a.k b.k = true) → mergeL ns os = ns.foldl putM os
  | [], os, _, _ => mergeL_nil_l os
  | n :: ns, os, hn, ho => by
    obtain ⟨h1, h2⟩ := List.pairwise_cons.1 hn
    have hp : (putM os n).Pairwise (fun a b => kt a.k b.k = true) := put_pw rfl ho
    rw [List.foldl_cons, ← mergeL_fold ns h2 hp, mergeL_lohi n ns ho]
    unfold putM
    have : loL Msg.k os n.k ++ n :: hiL Msg.k os n.k = (loL Msg.k os n.k ++ [n]) ++ hiL Msg.k os n.k := by simp
    rw [this, mergeL_pre ns _ _ (fun a ha x hx => by
      rcases List.mem_append.1 ha with ha | ha
      · exact kt_trans (lo_mem ha).2 (h1 x hx)
      · simp only [List.mem_singleton] at ha
        subst ha
        exact h1 x hx)]
    simp
theorem fold_left (p : Nd) (at_ klev room most : Int) : ∀ (ys left : List Msg) (n : Nat) (kb : List Msg) (kp : List Pr), (∀ m ∈ ys, (wayN p.piv m.k : Int) ≠ at_ ∨ most ≤ (n : Int) ∨ (0 < klev ∧ room ≤ (n : Int))) →
    ys.foldl (refStep p at_ klev room most) (left, n, kb, kp) = (left ++ ys, n, kb, kp)
  | [], left, n, kb, kp, _ => by simp
  | m :: ys, left, n, kb, kp, h => by
    have e : refStep p at_ klev room most (left, n, kb, kp) m = (left ++ [m], n, kb, kp) := if_pos (h m (by simp))
    rw [List.foldl_cons, e, fold_left p at_ klev room most ys _ n kb kp (fun x hx => h x (by simp [hx]))]
    simp
theorem fold_take (p : Nd) (at_ klev room most : Int) : ∀ (ys left : List Msg) (n : Nat) (kb : List Msg) (kp : List Pr), (∀ m ∈ ys, (wayN p.piv m.k : Int) = at_) → ((n + ys.length : Nat) : Int) ≤ most → (0 < klev → ((n + ys.length : Nat) : Int) ≤ room) →
    ys.foldl (refStep p at_ klev room most) (left, n, kb, kp) = (left, n + ys.length, if klev = 0 then kb else ys.foldl putM kb, if klev = 0 then appL kp ys else kp)
  | [], left, n, kb, kp, _, _, _ => by simp [appL]
  | m :: ys, left, n, kb, kp, h, h1, h2 => by
    rw [List.length_cons] at h1 h2
    have hc : ¬ ((wayN p.piv m.k : Int) ≠ at_ ∨ most ≤ (n : Int) ∨ (0 < klev ∧ room ≤ (n : Int))) := by
      rintro (h3 | h3 | ⟨h3, h4⟩)
      · exact h3 (h m (by simp))
      · omega
      · have := h2 h3; omega
    rw [List.foldl_cons, List.length_cons]
    by_cases hk : klev = 0
    · have e : refStep p at_ klev room most (left, n, kb, kp) m = (left, n + 1, kb, app1 kp m) := by unfold refStep; rw [if_neg hc, if_pos hk]
      rw [e, fold_take p at_ klev room most ys left (n + 1) kb (app1 kp m) (fun x hx => h x (by simp [hx])) (by omega) (fun h3 => by have := h2 h3; omega)]
      rw [if_pos hk, if_pos hk, if_pos hk, if_pos hk, show n + 1 + ys.length = n + (ys.length + 1) by omega]
      rfl
    · have e : refStep p at_ klev room most (left, n, kb, kp) m = (left, n + 1, putM kb m, kp) := by unfold refStep; rw [if_neg hc, if_neg hk]
      rw [e, fold_take p at_ klev room most ys left (n + 1) (putM kb m) kp (fun x hx => h x (by simp [hx])) (by omega) (fun h3 => by have := h2 h3; omega)]
      rw [if_neg hk, if_neg hk, if_neg hk, if_neg hk, show n + 1 + ys.length = n + (ys.length + 1) by omega]
      rfl
end Go.Proofs.Ytekoibglogoaaaa
