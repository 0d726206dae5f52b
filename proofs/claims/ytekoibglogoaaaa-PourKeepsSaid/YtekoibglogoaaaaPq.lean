/- The plain law: what is poured is what the document says. -/
import Derived.Test.YtekoibglogoaaaaPm
namespace Go.Proofs.Ytekoibglogoaaaa
open Go Go.RowKit Go.Shelf
set_option linter.unusedVariables false
set_option linter.unusedSimpArgs false

theorem rises_short {α : Type} {f : α → K} {xs : List α} (h : xs.length = 0) : Rises f xs := by
  have := List.eq_nil_of_length_eq_zero h
  subst this
  intro i x y hx
  simp at hx
theorem right9_sized {c : Conf} (h : right9B c = true) : SizedP c := by
  unfold right9B at h
  simp only [Bool.and_eq_true] at h
  exact sizedP h.1.1.1.1.1
theorem RightAll.inner {c : Conf} {p k : Nd} {at_ : Int} (H : RightAll c p at_ k) : InnerP c allSp p := by
  have := H.lev
  rcases H.rp with ⟨h, -⟩ | ⟨-, h⟩
  · omega
  · exact h
theorem RightP.lists {c : Conf} {s : Sp} {k : Nd} (h : RightP c s k) : Rises Pr.k k.prs ∧ Rises Msg.k k.buf ∧ 0 ≤ k.lev ∧ k.lev ≤ 40 ∧ (0 < k.lev → (k.buf.length : Int) ≤ c.buffer) := by
  rcases h with ⟨h0, h⟩ | ⟨h0, h⟩
  · exact ⟨h.2.2.2.2.2, rises_short h.2.2.2.1, by omega, by omega, fun h => by omega⟩
  · exact ⟨rises_short h.prs, h.rise, by omega, h.lev, fun _ => h.room⟩
theorem RightAll.piv {c : Conf} {p k : Nd} {at_ : Int} (H : RightAll c p at_ k) : Rises id p.piv ∧ (∀ (i : Nat) (x : K), p.piv[i]? = some x → x ≠ k0) ∧ p.piv.length + 1 = p.kids.length :=
  ⟨H.inner.piv.2, fun i x hx => (H.inner.piv.1 i x hx).2, H.inner.pivs⟩
theorem RightAll.span {c : Conf} {p k : Nd} {at_ : Int} (H : RightAll c p at_ k) (h : ¬ refEarly p k at_) : ∃ i : Nat, at_ = (i : Nat) ∧ i ≤ p.piv.length ∧ spanR p.piv at_ = (spanAt p.piv i, true) := by
  have h1 := H.piv.2.2
  unfold refEarly at h
  obtain ⟨i, rfl⟩ := Int.eq_ofNat_of_zero_le (show 0 ≤ at_ by omega)
  have hi : i ≤ p.piv.length := by omega
  exact ⟨i, rfl, hi, spanR_in_range H.piv.1 H.piv.2.1 hi⟩
theorem early_iff {p k : Nd} {at_ most : Int} : earlyP p k at_ most ↔ refEarly p k at_ ∨ most < 1 := by
  unfold earlyP refEarly
  constructor
  · rintro (h | h | h | h)
    · exact .inl (.inl h)
    · exact .inl (.inr (.inl h))
    · exact .inl (.inr (.inr h))
    · exact .inr h
  · rintro ((h | h | h) | h)
    · exact .inl h
    · exact .inr (.inl h)
    · exact .inr (.inr (.inl h))
    · exact .inr (.inr (.inr h))
theorem RightAll.pourH {c : Conf} {p k : Nd} {at_ most : Int} (H : RightAll c p at_ k) (ha : -9223372036854775808 ≤ at_ ∧ at_ ≤ 9223372036854775807) (hm : -9223372036854775808 ≤ most ∧ most ≤ 9223372036854775807) : PourH c p k at_ most := by
  obtain ⟨a1, a2, a3, a4⟩ := H.sp
  obtain ⟨b1, b2, b3, b4⟩ := H.sk
  obtain ⟨l1, l2, l3, l4, l5⟩ := H.rk.lists
  have hs := right9_sized H.conf
  have hi := H.inner
  have hlev := H.lev
  have hf := hs.f1
  have hb1 := hs.b1
  have hb2 := hs.b2
  exact ⟨⟨by omega, by omega, by omega, by omega⟩, ⟨by omega, by omega, by omega, by omega⟩, ⟨by omega, hi.lev⟩, ⟨l3, l4⟩, hi.rise, l1, by omega, by omega, by omega, fun h => by
    obtain ⟨i, -, -, hsp⟩ := H.span (fun h2 => h (early_iff.2 (.inl h2)))
    rw [hsp], ⟨by omega, by omega⟩, ha, hm⟩
theorem RightAll.refH {c : Conf} {p k : Nd} {at_ most : Int} (H : RightAll c p at_ k) (ha : -9223372036854775808 ≤ at_ ∧ at_ ≤ 9223372036854775807) (hm : -9223372036854775808 ≤ most ∧ most ≤ 9223372036854775807) : RefH c p k at_ most := by
  obtain ⟨a1, a2, a3, a4⟩ := H.sp
  obtain ⟨b1, b2, b3, b4⟩ := H.sk
  have h := H.pourH ha hm
  exact ⟨h.lp, h.lk, h.rk, by omega, by omega, by omega, by omega, h.cb, ha, hm⟩
/-- How many are taken, and why no more. -/
theorem take_bound {c : Conf} {k : Nd} {s : Sp} {xs : List Msg} {most : Int} (hm : 1 ≤ most) (hl : 0 ≤ k.lev) (hr : 0 < k.lev → (k.buf.length : Int) ≤ c.buffer) :
    ((takeT s xs (mostOf c k most) : Nat) : Int) ≤ most ∧ (0 < k.lev → ((takeT s xs (mostOf c k most) : Nat) : Int) ≤ c.buffer - (k.buf.length : Int)) ∧ takeT s xs (mostOf c k most) ≤ partB s xs - partA s xs ∧
    (takeT s xs (mostOf c k most) < partB s xs - partA s xs → most ≤ ((takeT s xs (mostOf c k most) : Nat) : Int) ∨ (0 < k.lev ∧ c.buffer - (k.buf.length : Int) ≤ ((takeT s xs (mostOf c k most) : Nat) : Int))) := by
  unfold takeT mostOf
  by_cases h0 : 0 < k.lev
  · have := hr h0
    rw [if_pos h0]
    refine ⟨by omega, fun _ => by omega, by omega, fun h => ?_⟩
    by_cases e : most ≤ c.buffer - (k.buf.length : Int)
    · left; omega
    · right; exact ⟨h0, by omega⟩
  · rw [if_neg h0]
    exact ⟨by omega, fun h => absurd h h0, by omega, fun h => .inl (by omega)⟩
theorem refFold_eq {c : Conf} {p k : Nd} {at_ most : Int} (H : RightAll c p at_ k) (h : ¬ earlyP p k at_ most) {s : Sp} (hsp : spanR p.piv at_ = (s, true)) (hin : ∀ key, inSp s key = decide ((wayN p.piv key : Int) = at_)) (hem : emptySp s = false) :
    refFold c p at_ k most p.buf = (restOf s p.buf (mostOf c k most), takeT s p.buf (mostOf c k most), if k.lev = 0 then k.buf else (taken s p.buf (mostOf c k most)).foldl putM k.buf, if k.lev = 0 then appL k.prs (taken s p.buf (mostOf c k most)) else k.prs) := by
  obtain ⟨l1, l2, l3, l4, l5⟩ := H.rk.lists
  have hmost : 1 ≤ most := by
    have : ¬ most < 1 := fun hh => h (early_iff.2 (.inr hh))
    omega
  obtain ⟨q1, q2, q3⟩ := part_in H.inner.rise hem
  obtain ⟨t1, t2, t3, t4⟩ := take_bound (c := c) (k := k) (s := s) (xs := p.buf) hmost l3 l5
  have hab := partA_le s p.buf
  have hbn := partB_le s p.buf
  unfold refFold taken restOf
  generalize takeT s p.buf (mostOf c k most) = T at *
  generalize partA s p.buf = A at *
  generalize partB s p.buf = B at *
  have hTl : ((p.buf.drop A).take T).length = T := by rw [List.length_take, List.length_drop]; omega
  have hbuf : p.buf = p.buf.take A ++ ((p.buf.drop A).take T ++ p.buf.drop (A + T)) := by
    rw [← List.drop_drop, List.take_append_drop, List.take_append_drop]
  have hfold : ∀ z, p.buf.foldl (refStep p at_ k.lev (c.buffer - (k.buf.length : Int)) most) z = (p.buf.take A ++ ((p.buf.drop A).take T ++ p.buf.drop (A + T))).foldl (refStep p at_ k.lev (c.buffer - (k.buf.length : Int)) most) z := fun z => by rw [← hbuf]
  rw [hfold, List.foldl_append, List.foldl_append]
  rw [fold_left p at_ k.lev (c.buffer - (k.buf.length : Int)) most (p.buf.take A) [] 0 k.buf k.prs (fun m hm => .inl (fun e => by
    have h1 := q1 m hm
    rw [hin, decide_eq_true e] at h1
    simp at h1))]
  rw [fold_take p at_ k.lev (c.buffer - (k.buf.length : Int)) most ((p.buf.drop A).take T) _ 0 k.buf k.prs (fun m hm => by
    have h1 := q2 m (by
      have : (p.buf.drop A).take T = ((p.buf.drop A).take (B - A)).take T := by rw [List.take_take, Nat.min_eq_left t3]
      rw [this] at hm
      exact List.mem_of_mem_take hm)
    rw [hin] at h1
    exact of_decide_eq_true h1) (by rw [hTl, Nat.zero_add]; exact t1) (fun h0 => by rw [hTl, Nat.zero_add]; exact t2 h0)]
  rw [hTl, Nat.zero_add]
  rw [fold_left p at_ k.lev (c.buffer - (k.buf.length : Int)) most (p.buf.drop (A + T)) _ T _ _ (fun m hm => by
    obtain ⟨t, ht, rfl⟩ := List.mem_iff_getElem.1 hm
    rw [List.length_drop] at ht
    by_cases hb : A + T + t < B
    · rcases t4 (by omega) with h4 | h4
      · exact .inr (.inl h4)
      · exact .inr (.inr h4)
    · left
      intro e
      have h3 := q3 ((p.buf.drop (A + T))[t]) (by
        rw [List.getElem_drop]
        refine List.mem_iff_getElem.2 ⟨A + T + t - B, by rw [List.length_drop]; omega, ?_⟩
        rw [List.getElem_drop]
        congr 1
        omega)
      rw [hin, decide_eq_true e] at h3
      simp at h3)]
  simp
theorem pour_same {c : Conf} {p k : Nd} {at_ most : Int} (H : RightAll c p at_ k) : refP c p at_ k most = pourP c p at_ k most ∧ refK c p at_ k most = pourK c p at_ k most ∧ refN c p at_ k most = (takenP c p at_ k most).length := by
  unfold refP refK refN pourP pourK takenP
  by_cases hr : refEarly p k at_
  · have he : earlyP p k at_ most := early_iff.2 (.inl hr)
    rw [if_pos hr, if_pos hr, if_pos hr, if_pos he, if_pos he, if_pos he]
    exact ⟨rfl, rfl, rfl⟩
  · rw [if_neg hr, if_neg hr, if_neg hr]
    by_cases hm : most < 1
    · have he : earlyP p k at_ most := early_iff.2 (.inr hm)
      rw [if_pos he, if_pos he, if_pos he]
      have hf : refFold c p at_ k most p.buf = (p.buf, 0, k.buf, k.prs) := by
        unfold refFold
        rw [fold_left p at_ k.lev _ most p.buf [] 0 k.buf k.prs (fun m _ => .inr (.inl (by omega)))]
        rfl
      rw [hf]
      exact ⟨rfl, rfl, rfl⟩
    · have he : ¬ earlyP p k at_ most := fun h => by
        rcases early_iff.1 h with h | h
        · exact hr h
        · exact hm h
      rw [if_neg he, if_neg he, if_neg he]
      obtain ⟨i, hai, hi, hsp⟩ := H.span hr
      have hem := span_full H.piv.1 H.piv.2.1 hi
      have hin : ∀ key, inSp (spanAt p.piv i) key = decide ((wayN p.piv key : Int) = at_) := fun key => by
        rw [way_in H.piv.1 hi key]
        congr 1
        apply propext
        omega
      rw [refFold_eq H he hsp hin hem, hsp]
      have hab := partA_le (spanAt p.piv i) p.buf
      have hbn := partB_le (spanAt p.piv i) p.buf
      refine ⟨rfl, ?_, ?_⟩
      · by_cases h0 : k.lev = 0
        · simp only [if_pos h0]
        · simp only [if_neg h0]
          rw [mergeL_fold _ _ H.rk.lists.2.1.pw]
          unfold taken
          exact (H.inner.rise.pw.sublist (List.drop_sublist _ _)).sublist (List.take_sublist _ _)
      · simp only
        unfold taken
        rw [List.length_take, List.length_drop]
        have : takeT (spanAt p.piv i) p.buf (mostOf c k most) ≤ partB (spanAt p.piv i) p.buf - partA (spanAt p.piv i) p.buf := by unfold takeT; omega
        omega
end Go.Proofs.Ytekoibglogoaaaa
