/- The plain law: what is poured keeps the two nodes right, and no message is lost or made. -/
import Derived.Test.YtekoibglogoaaaaPq
namespace Go.Proofs.Ytekoibglogoaaaa
open Go Go.RowKit Go.Shelf
set_option linter.unusedVariables false
set_option linter.unusedSimpArgs false

theorem lohi_ge {α : Type} {f : α → K} {k : K} {xs : List α} (h : xs.Pairwise (fun a b => kt (f a) (f b) = true)) : xs.length ≤ (loL f xs k).length + (hiL f xs k).length + 1 := by
  obtain ⟨h1, h2⟩ := pos_take (k := k) h
  rw [← h1]
  rcases h2 with ⟨-, h2, -⟩ | ⟨-, h2, -⟩
  · rw [← h2, List.length_take, List.length_drop]; omega
  · rw [← h2, List.length_take, List.length_drop]; omega
theorem app1_ge {xs : List Pr} {m : Msg} (h : Rises Pr.k xs) : xs.length ≤ (app1 xs m).length + 1 := by
  have := lohi_ge (k := m.k) h.pw
  unfold app1
  split
  · rw [List.length_append]; omega
  · rw [List.length_append, List.length_cons]; omega
theorem appL_ge : ∀ (ms : List Msg) {xs : List Pr}, Rises Pr.k xs → xs.length ≤ (appL xs ms).length + ms.length
  | [], _, _ => Nat.le_refl _
  | m :: ms, xs, h => by
    have h1 := appL_ge ms (app1_rises (m := m) h)
    have h2 := app1_ge (m := m) h
    show _ ≤ (appL (app1 xs m) ms).length + _
    rw [List.length_cons]
    omega
theorem app1_mem {xs : List Pr} {m : Msg} {p : Pr} (h : p ∈ app1 xs m) : p ∈ xs ∨ p = ⟨m.k, m.v⟩ := by
  unfold app1 at h
  split at h
  · rcases List.mem_append.1 h with h | h
    · exact .inl (lo_mem h).1
    · exact .inl (hi_mem h).1
  · rcases List.mem_append.1 h with h | h
    · exact .inl (lo_mem h).1
    · rcases List.mem_cons.1 h with h | h
      · exact .inr h
      · exact .inl (hi_mem h).1
theorem appL_mem : ∀ (ms : List Msg) {xs : List Pr} {p : Pr}, p ∈ appL xs ms → p ∈ xs ∨ ∃ m ∈ ms, p = ⟨m.k, m.v⟩
  | [], _, _, h => .inl h
  | m :: ms, xs, p, h => by
    rcases appL_mem ms (xs := app1 xs m) h with h | ⟨x, hx, e⟩
    · rcases app1_mem h with h | h
      · exact .inl h
      · exact .inr ⟨m, by simp, h⟩
    · exact .inr ⟨x, by simp [hx], e⟩
theorem putM_mem {os : List Msg} {n m : Msg} (h : m ∈ putM os n) : m ∈ os ∨ m = n := by
  unfold putM at h
  rcases List.mem_append.1 h with h | h
  · exact .inl (lo_mem h).1
  · rcases List.mem_cons.1 h with h | h
    · exact .inr h
    · exact .inl (hi_mem h).1
theorem putM_le2 (os : List Msg) (n : Msg) : (putM os n).length ≤ os.length + 1 := by
  have := lohi_le (f := Msg.k) os n.k
  unfold putM
  rw [List.length_append, List.length_cons]
  omega
theorem fold_mem : ∀ (ns : List Msg) {os : List Msg} {m : Msg}, m ∈ ns.foldl putM os → m ∈ os ∨ m ∈ ns
  | [], _, _, h => .inl h
  | n :: ns, os, m, h => by
    rcases fold_mem ns (os := putM os n) h with h | h
    · rcases putM_mem h with h | h
      · exact .inl h
      · exact .inr (by simp [h])
    · exact .inr (by simp [h])
theorem fold_len : ∀ (ns : List Msg) (os : List Msg), (ns.foldl putM os).length ≤ os.length + ns.length
  | [], _ => Nat.le_refl _
  | n :: ns, os => by
    have h1 := fold_len ns (putM os n)
    have h2 := putM_le2 os n
    rw [List.foldl_cons, List.length_cons]
    omega
theorem fold_pw : ∀ (ns : List Msg) {os : List Msg}, os.Pairwise (fun a b => kt a.k b.k = true) → (ns.foldl putM os).Pairwise (fun a b => kt a.k b.k = true)
  | [], _, h => h
  | n :: ns, os, h => by
    have hp : (putM os n).Pairwise (fun a b => kt a.k b.k = true) := put_pw rfl h
    exact fold_pw ns hp
theorem rest_sub (s : Sp) (xs : List Msg) (m : Int) : (restOf s xs m).Sublist xs := by
  unfold restOf
  have h : (xs.drop (partA s xs + takeT s xs m)).Sublist (xs.drop (partA s xs)) := by rw [← List.drop_drop]; exact List.drop_sublist _ _
  have h2 := (List.Sublist.refl (xs.take (partA s xs))).append h
  rwa [List.take_append_drop] at h2
theorem taken_sub (s : Sp) (xs : List Msg) (m : Int) : (taken s xs m).Sublist xs := (List.take_sublist _ _).trans (List.drop_sublist _ _)
theorem rest_len (s : Sp) (xs : List Msg) (m : Int) : (restOf s xs m).length + (taken s xs m).length = xs.length := by
  have h1 := partA_le s xs
  have h2 := partB_le s xs
  have h3 : takeT s xs m ≤ partB s xs - partA s xs := by unfold takeT; omega
  unfold restOf taken
  rw [List.length_append, List.length_take, List.length_drop, List.length_take, List.length_drop]
  omega
theorem taken_lenT (s : Sp) (xs : List Msg) (m : Int) : (taken s xs m).length = takeT s xs m := by
  have h1 := partA_le s xs
  have h2 := partB_le s xs
  have h3 : takeT s xs m ≤ partB s xs - partA s xs := by unfold takeT; omega
  unfold taken
  rw [List.length_take, List.length_drop]
  omega
theorem taken_in {s : Sp} {xs : List Msg} {m : Int} (hr : Rises Msg.k xs) (he : emptySp s = false) {x : Msg} (hx : x ∈ taken s xs m) : inSp s x.k = true := by
  refine (part_in hr he).2.1 x ?_
  have h3 : takeT s xs m ≤ partB s xs - partA s xs := by unfold takeT; omega
  have : taken s xs m = ((xs.drop (partA s xs)).take (partB s xs - partA s xs)).take (takeT s xs m) := by unfold taken; rw [List.take_take, Nat.min_eq_left h3]
  rw [this] at hx
  exact List.mem_of_mem_take hx
/-- A node that is right is right with a greater leaf. -/
theorem RightP.more {c : Conf} {s : Sp} {k : Nd} (h : RightP c s k) (n : Nat) : RightP { c with leaf := c.leaf + n } s k := by
  rcases h with ⟨h0, h1, h2, h3, h4, h5, h6⟩ | ⟨h0, h⟩
  · exact .inl ⟨h0, h1, h2, h3, h4, show (k.prs.length : Int) ≤ c.leaf + n by omega, h6⟩
  · exact .inr ⟨h0, h.kids, h.keys, h.msgs, h.lev, h.prs, h.one, h.fan, h.pivs, h.piv, h.room, h.rise⟩
structure Keeps (c : Conf) (p k q x : Nd) (at_ most : Int) (n : Nat) : Prop where
  buf : q.buf.length + n = p.buf.length
  most : (n : Int) ≤ max 0 most
  kbuf : x.buf.length ≤ k.buf.length + n
  prs : x.prs.length ≤ k.prs.length + n
  prs2 : k.prs.length ≤ x.prs.length + n
  pivq : q.piv = p.piv
  pivx : x.piv = k.piv
  prsq : q.prs = p.prs
  rq : RightP c allSp q
  rx : (spanR p.piv at_).2 = true → RightP { c with leaf := c.leaf + n } (spanR p.piv at_).1 x
theorem RightAll.keeps {c : Conf} {p k : Nd} {at_ most : Int} (H : RightAll c p at_ k) : Keeps c p k (pourP c p at_ k most) (pourK c p at_ k most) at_ most (takenP c p at_ k most).length := by
  have hk : (spanR p.piv at_).2 = true → RightP c (spanR p.piv at_).1 k := fun h => by
    have := H.rk
    unfold kidSp at this
    rwa [if_pos h] at this
  obtain ⟨l1, l2, l3, l4, l5⟩ := H.rk.lists
  unfold pourP pourK takenP
  by_cases he : earlyP p k at_ most
  · rw [if_pos he, if_pos he, if_pos he]
    exact ⟨rfl, by simp only [List.length_nil]; omega, by simp, by simp, by simp, rfl, rfl, rfl, H.rp, fun h => (hk h).more 0⟩
  · rw [if_neg he, if_neg he, if_neg he]
    have hmost : 1 ≤ most := by
      have : ¬ most < 1 := fun hh => he (early_iff.2 (.inr hh))
      omega
    obtain ⟨i, hai, hi, hsp⟩ := H.span (fun h => he (early_iff.2 (.inl h)))
    have hem := span_full H.piv.1 H.piv.2.1 hi
    rw [hsp] at hk ⊢
    simp only at hk ⊢
    have hk := hk trivial
    generalize spanAt p.piv i = s at *
    obtain ⟨t1, t2, t3, t4⟩ := take_bound (c := c) (k := k) (s := s) (xs := p.buf) hmost l3 l5
    have hI := H.inner
    have hlev := H.lev
    have el := taken_lenT s p.buf (mostOf c k most)
    have er := rest_len s p.buf (mostOf c k most)
    have hok : ∀ m ∈ taken s p.buf (mostOf c k most), keyB c m.k = true ∧ inSp s m.k = true ∧ valB c m.v = true ∧ (!m.d || decide (m.v = k0)) = true := fun m hm => by
      obtain ⟨j, hj⟩ := List.mem_iff_getElem?.1 ((taken_sub _ _ _).subset hm)
      have h1 := hI.msgs j m hj
      unfold okMsg at h1
      simp only [Bool.and_eq_true] at h1
      exact ⟨h1.1.1.1, taken_in hI.rise hem hm, h1.1.2, h1.2⟩
    have hq : RightP c allSp { p with buf := restOf s p.buf (mostOf c k most) } := by
      refine .inr ⟨by show 0 < p.lev; omega, hI.kids, hI.keys, fun j m hj => ?_, hI.lev, hI.prs, hI.one, hI.fan, hI.pivs, hI.piv, ?_, ?_⟩
      · obtain ⟨j', hj'⟩ := List.mem_iff_getElem?.1 ((rest_sub _ _ _).subset (List.mem_of_getElem? hj))
        exact hI.msgs j' m hj'
      · have := hI.room
        show ((restOf s p.buf (mostOf c k most)).length : Int) ≤ c.buffer
        omega
      · exact rises_of_pw (hI.rise.pw.sublist (rest_sub _ _ _))
    have hn : ((taken s p.buf (mostOf c k most)).length : Int) ≤ max 0 most := by rw [el]; omega
    by_cases h0 : k.lev = 0
    · rw [if_pos h0]
      have a1 := appL_len (taken s p.buf (mostOf c k most)) k.prs
      have a2 := appL_ge (taken s p.buf (mostOf c k most)) l1
      refine ⟨er, hn, by simp, a1, a2, rfl, rfl, rfl, hq, fun _ => ?_⟩
      rw [hsp]
      simp only
      rcases hk with ⟨-, b1, b2, b3, b4, b5, b6⟩ | ⟨hp, -⟩
      · refine .inl ⟨h0, fun j x hj => ?_, b2, b3, b4, ?_, appL_rises _ b6⟩
        · rcases appL_mem _ (List.mem_of_getElem? hj) with h | ⟨m, hm, rfl⟩
          · obtain ⟨j', hj'⟩ := List.mem_iff_getElem?.1 h
            exact b1 j' x hj'
          · obtain ⟨o1, o2, o3, -⟩ := hok m hm
            show (keyB c m.k && inSp s m.k && valB c m.v) = true
            rw [o1, o2, o3]
            rfl
        · show ((appL k.prs (taken s p.buf (mostOf c k most))).length : Int) ≤ c.leaf + ((taken s p.buf (mostOf c k most)).length : Int)
          omega
      · omega
    · rw [if_neg h0]
      have ef := mergeL_fold (taken s p.buf (mostOf c k most)) (hI.rise.pw.sublist (taken_sub _ _ _)) l2.pw
      have a1 := fold_len (taken s p.buf (mostOf c k most)) k.buf
      rw [ef]
      refine ⟨er, hn, a1, by simp, by simp, rfl, rfl, rfl, hq, fun _ => ?_⟩
      rw [hsp]
      simp only
      rcases hk with ⟨hp, -⟩ | ⟨hp, hK⟩
      · omega
      · refine .inr ⟨hp, hK.kids, hK.keys, fun j m hj => ?_, hK.lev, hK.prs, hK.one, hK.fan, hK.pivs, hK.piv, ?_, rises_of_pw (fold_pw _ l2.pw)⟩
        · rcases fold_mem _ (List.mem_of_getElem? hj) with h | h
          · obtain ⟨j', hj'⟩ := List.mem_iff_getElem?.1 h
            exact hK.msgs j' m hj'
          · obtain ⟨o1, o2, o3, o4⟩ := hok m h
            show (keyB c m.k && inSp s m.k && valB c m.v && (!m.d || decide (m.v = k0))) = true
            rw [o1, o2, o3, o4]
            rfl
        · have := t2 hp
          show (((taken s p.buf (mostOf c k most)).foldl putM k.buf).length : Int) ≤ c.buffer
          omega
end Go.Proofs.Ytekoibglogoaaaa
