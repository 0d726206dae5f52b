/- The span of a kid, and a key's way: whole contracts. -/
import Derived.Test.YtekoibglogoaaaaCg
namespace Go.Proofs.Ytekoibglogoaaaa
open Go Go.RowKit Go.Shelf
set_option linter.unusedVariables false
set_option linter.unusedSimpArgs false

theorem spanR_in (l : List K) (i : Nat) (hi : i ≤ l.length) (s : Sp) (hs : spanAt l i = s) : ((if emptySp s then zeroSp else s).v, !emptySp s) = ((spanR l (i : Nat)).1.v, (spanR l (i : Nat)).2) := by
  have hn : ¬ ((i : Int) < 0 ∨ (l.length : Int) < (i : Int)) := by omega
  unfold spanR
  simp only [if_neg hn, Int.toNat_natCast, hs]
  cases emptySp s <;> rfl
theorem spanAt_pos (l : List K) (j : Nat) (h : j + 1 < l.length) : spanAt l (j + 1) = ⟨l[j], l[j + 1], false⟩ := by
  unfold spanAt
  simp only [Sp.mk.injEq]
  refine ⟨by simp [List.getD_eq_getElem?_getD, List.getElem?_eq_getElem (show j < l.length by omega)], by rw [if_pos h]; simp [List.getD_eq_getElem?_getD, List.getElem?_eq_getElem h], by simp; omega⟩
theorem spanAt_last (l : List K) (j : Nat) (h : j + 1 = l.length) : spanAt l (j + 1) = ⟨l[j], k0, true⟩ := by
  unfold spanAt
  simp only [Sp.mk.injEq]
  refine ⟨by simp [List.getD_eq_getElem?_getD, List.getElem?_eq_getElem (show j < l.length by omega)], by rw [if_neg (by omega)], by simp; omega⟩
theorem spanAt_first (l : List K) (h : 0 < l.length) : spanAt l 0 = ⟨k0, l[0], false⟩ := by
  unfold spanAt
  simp only [Sp.mk.injEq]
  refine ⟨rfl, by rw [if_pos h]; simp [List.getD_eq_getElem?_getD, List.getElem?_eq_getElem h], by simp; omega⟩
theorem spanAt_only (l : List K) (h : 0 = l.length) : spanAt l 0 = ⟨k0, k0, true⟩ := by
  unfold spanAt
  simp only [Sp.mk.injEq]
  refine ⟨rfl, by rw [if_neg (by omega)], by simp; omega⟩

theorem span_mono {f : Nat} {args : Array Value} {w : World} {l : List K} {i : Nat} {s : Sp} (hi : i ≤ l.length) (hs : spanAt l i = s)
    (h : Calls Try.prog f args w fun e w' => e = .returned (.tuple #[(if emptySp s then zeroSp else s).v, .bool (!emptySp s)]) ∧ Still w w') : Calls Try.prog f args w (SpanP l (i : Nat) w) := by
  refine h.mono ?_
  rintro e w' ⟨rfl, hst⟩
  have := spanR_in l i hi s hs
  simp only [Prod.mk.injEq] at this
  exact ⟨by rw [this.1, this.2], hst⟩

theorem fspan {w : World} {v : Value} {l : List K} (h : Sl encS 1 w v l) (at_ : Int) : Calls Try.prog 16 #[v, .int .i64 at_, allSp.v] w (SpanP l at_ w) := by
  obtain ⟨A, c, rfl, hc1, hc2⟩ := h.form
  have hlen := h.lenLe
  by_cases ho : at_ < 0 ∨ (l.length : Int) < at_
  · refine (fspan_out at_ ho).mono ?_
    rintro e w' ⟨rfl, hs⟩
    exact ⟨by unfold spanR; rw [if_pos ho], hs⟩
  · obtain ⟨i, rfl⟩ := Int.eq_ofNat_of_zero_le (show 0 ≤ at_ by omega)
    have hi : i ≤ l.length := by omega
    cases i with
    | zero =>
      by_cases h0 : 0 < l.length
      · obtain ⟨b, off, rfl, hb, hd0⟩ := h.s 0 h0
        exact span_mono hi (spanAt_first l h0) (fspan_c none b off c l.length 0 k0 (l[0]) hd0 h0 hlen hc1 hc2)
      · exact span_mono hi (spanAt_only l (by omega)) (fspan_d A 0 0 c l.length 0 k0 k0 (by omega) hlen hc1 hc2)
    | succ j =>
      by_cases h0 : j + 1 < l.length
      · obtain ⟨b, off, rfl, hb, hc0⟩ := h.s j (by omega)
        obtain ⟨b2, off2, e2, hb2, hd0⟩ := h.s (j + 1) h0
        simp only [Option.some.injEq, Addr.mk.injEq] at e2
        obtain ⟨rfl, rfl, -⟩ := e2
        exact span_mono hi (spanAt_pos l j h0) (fspan_a none b off c l.length j (l[j]) (l[j + 1]) hc0 hd0 h0 hlen hc1 hc2)
      · obtain ⟨b, off, rfl, hb, hc0⟩ := h.s j (by omega)
        exact span_mono hi (spanAt_last l j (by omega)) (fspan_b none b off c l.length j (l[j]) k0 hc0 (by omega) hlen hc1 hc2)

set_option maxRecDepth 100000 in
theorem rspan_out {w : World} {A : Option Addr} {c n : Nat} (at_ : Int) (h : at_ < 0 ∨ (n : Int) < at_) : Calls Try.prog 10 #[.slice A n c, .int .i64 at_, allSp.v] w fun e w' => e = .returned (.tuple #[zeroSp.v, .bool false]) ∧ Still w w' := by
  unfold allSp zeroSp Sp.v
  simp only
  rcases (show at_ < 0 ∨ (¬ at_ < 0 ∧ (n : Int) < at_) by omega) with h1 | ⟨h1, h2⟩
  all_goals
    clear h
    go_enter Try.func10, Try.ntmps10
    go_wp2
    refine bodyPost_ret (v := .tuple #[.agg #[.string ⟨#[]⟩, .string ⟨#[]⟩, .bool false], .bool false]) (by simp [results, Try.results10, go_sem, *]) rfl ?_
    exact ⟨rfl, (Chg.alloc w _).allocs _⟩
theorem kc_k0 (a : K) : 0 < kc a k0 ∨ a = k0 := by
  by_cases h : a = k0
  · exact .inr h
  · left
    have h1 : ¬ kc a k0 = 0 := fun e => h (kc_zero.1 e)
    have h2 : ¬ kc a k0 < 0 := fun e => by have := kc_lt.1 e; rw [kt_empty] at this; simp at this
    omega
theorem rspan {w : World} {v : Value} {l : List K} (h : Sl encS 1 w v l) (at_ : Int) : Calls Try.prog 10 #[v, .int .i64 at_, allSp.v] w (SpanP l at_ w) := by
  obtain ⟨A, c, rfl, hc1, hc2⟩ := h.form
  have hlen := h.lenLe
  by_cases ho : at_ < 0 ∨ (l.length : Int) < at_
  · refine (rspan_out at_ ho).mono ?_
    rintro e w' ⟨rfl, hs⟩
    exact ⟨by unfold spanR; rw [if_pos ho], hs⟩
  · obtain ⟨i, rfl⟩ := Int.eq_ofNat_of_zero_le (show 0 ≤ at_ by omega)
    have hi : i ≤ l.length := by omega
    cases i with
    | zero =>
      by_cases h0 : 0 < l.length
      · obtain ⟨b, off, rfl, hb, hd0⟩ := h.s 0 h0
        exact span_mono hi (spanAt_first l h0) (rspan_c none b off c l.length 0 k0 (l[0]) hd0 h0 hlen hc1 hc2)
      · have e : l.length = 0 := by omega
        refine span_mono hi (spanAt_only l (by omega)) ?_
        rw [e]
        exact rspan_d A 0 0 c 0 0 k0 k0 rfl (by omega) (by omega) hc2
    | succ j =>
      by_cases h0 : j + 1 < l.length
      · obtain ⟨b, off, rfl, hb, hc0⟩ := h.s j (by omega)
        obtain ⟨b2, off2, e2, hb2, hd0⟩ := h.s (j + 1) h0
        simp only [Option.some.injEq, Addr.mk.injEq] at e2
        obtain ⟨rfl, rfl, -⟩ := e2
        rcases kc_k0 (l[j]) with hk | hk
        · exact span_mono hi (spanAt_pos l j h0) (rspan_a none b off c l.length j (l[j]) (l[j + 1]) hc0 hk hd0 h0 hlen hc1 hc2)
        · exact span_mono hi (spanAt_pos l j h0) (rspan_a2 none b off c l.length j (l[j]) (l[j + 1]) hc0 hk hd0 h0 hlen hc1 hc2)
      · obtain ⟨b, off, rfl, hb, hc0⟩ := h.s j (by omega)
        rcases kc_k0 (l[j]) with hk | hk
        · exact span_mono hi (spanAt_last l j (by omega)) (rspan_b none b off c l.length j (l[j]) k0 hc0 hk (by omega) hlen hc1 hc2)
        · exact span_mono hi (spanAt_last l j (by omega)) (rspan_b2 none b off c l.length j (l[j]) k0 hc0 hk (by omega) hlen hc1 hc2)

/-- How many pivots are not behind a key. -/
def wayN (l : List K) (k : K) : Nat := l.countP fun p => ke p k
theorem wayN_le (l : List K) (k : K) : wayN l k ≤ l.length := List.countP_le_length
theorem way {w : World} {v : Value} {l : List K} (h : Sl encS 1 w v l) (key : K) : Calls Try.prog 21 #[v, .string key.1] w fun e w' => e = .returned (.int .i64 (wayN l key)) ∧ Still w w' := by
  obtain ⟨A, c, rfl, hc1, hc2⟩ := h.form
  have H := Lib.hid h
  have hlen := h.lenLe
  clear h
  go_enter Try.func21, Try.ntmps21
  go_wp2_with fail
  go_loopw [5, 6] (fun n i wr => ∃ k : Nat, k ≤ l.length ∧ i = .int .i64 (k : Nat) ∧ n = .int .i64 (wayN (l.take k) key) ∧ Still w wr) (fun _ i _ => l.length - nv i)
  case atStart => exact ⟨0, Nat.zero_le _, rfl, by simp [wayN], Chg.refl _ w⟩
  case round =>
    obtain ⟨k, hk, rfl, rfl, hs⟩ := hrel
    have HS := Lib.hid hs
    have hn := wayN_le (l.take k) key
    rw [List.length_take] at hn
    have hn2 : wayN (l.take k) key ≤ k := by omega
    clear hs hn
    by_cases hlt : k < l.length
    · obtain ⟨b, off, rfl, hb, hc0⟩ := (H.out.still HS.out).s k hlt
      have HX : Hid (wayN (l.take (k + 1)) key = wayN (l.take k) key + if ke l[k] key then 1 else 0) := Lib.hid (by
        rw [List.take_succ_eq_append_getElem hlt]
        unfold wayN
        rw [List.countP_append]
        simp [List.countP_cons])
      generalize l[k] = x at hc0 HX
      have HK := Lib.hid (kc_le_kt x key)
      go_wp2_with fail
      refine (rcompare_s x key _).mono ?_
      rintro e w1 ⟨rfl, hs1⟩
      have HS1 := Lib.hid (HS.out.trans hs1)
      clear hs1
      by_cases hc : kc x key ≤ 0
      · have HN := Lib.hid (show wayN (l.take (k + 1)) key = wayN (l.take k) key + 1 from by rw [HX.out, kc_le.1 hc]; rfl)
        go_wp2
        go_roundw
        case rel => exact ⟨k + 1, by omega, by go_num, by rw [HN.out]; go_num, HS1.out⟩
        case measure => simp [nv]; omega
      · have HN := Lib.hid (show wayN (l.take (k + 1)) key = wayN (l.take k) key from by
          rw [HX.out]
          have : ke x key = false := by cases h : ke x key with
            | false => rfl
            | true => exact absurd (kc_le.2 h) hc
          rw [this]; rfl)
        go_wp2
        go_roundw
        case rel => exact ⟨k + 1, by omega, by go_num, by rw [HN.out], HS1.out⟩
        case measure => simp [nv]; omega
    · have HN := Lib.hid (show wayN (l.take k) key = wayN l key from by rw [show k = l.length by omega, List.take_length])
      go_wp2
      go_ret
      exact ⟨by rw [← HN.out]; rfl, HS.out⟩
end Go.Proofs.Ytekoibglogoaaaa
