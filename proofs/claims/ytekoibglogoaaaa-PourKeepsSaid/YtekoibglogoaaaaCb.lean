/- Lists that rise, lists that are alike, by their contracts. -/
import Derived.Test.YtekoibglogoaaaaSl
namespace Go.Proofs.Ytekoibglogoaaaa
open Go Go.RowKit Go.Shelf
set_option linter.unusedVariables false
set_option linter.unusedSimpArgs false

/-- A Go function that tells whether p, and writes nothing that was there. -/
def BoolP (p : Prop) (w : World) (e : Ending) (w' : World) : Prop := ∃ b : Bool, e = .returned (.bool b) ∧ Hid (b = true ↔ p) ∧ Still w w'
/-- The keys rise. -/
def Rises {α : Type} (key : α → K) (xs : List α) : Prop := ∀ i x y, xs[i]? = some x → xs[i + 1]? = some y → kt (key x) (key y) = true
theorem ge_some {α : Type} {xs : List α} {i : Nat} (h : i < xs.length) : xs[i]? = some xs[i] := List.getElem?_eq_getElem h
theorem kne {a b : K} (h : a ≠ b) : ¬ a.1.toList = b.1.toList := fun e => h (kl_inj (by unfold kl; rw [← ByteArray.toList_eq, ← ByteArray.toList_eq, e]))
theorem kneB {a b : K} (h : a ≠ b) : (a.1.toList == b.1.toList) = false := beq_eq_false_iff_ne.2 (kne h)
theorem une {a b : U} (h : a ≠ b) : (a.1 != b.1) = true := by simp only [bne_iff_ne, ne_eq]; exact fun e => h (Subtype.ext e)
theorem size_al (w : World) (o : Obj) : (w.alloc o).heap.size = w.heap.size + 1 := Array.size_push _

theorem right10 {w : World} {v : Value} {xs : List Msg} (h : Sl encM 3 w v xs) : Calls Try.prog 56 #[v] w (BoolP (Rises Msg.k xs) w) := by
  obtain ⟨A, c, rfl, hc1, hc2⟩ := h.form
  have H := Lib.hid h
  have hlen := h.lenLe
  clear h
  go_enter Try.func56, Try.ntmps56
  go_wp2_with fail
  go_loopw [3] (fun i wr => ∃ k : Nat, 1 ≤ k ∧ (k ≤ xs.length ∨ k = 1) ∧ i = .int .i64 (k : Nat) ∧ Hid (∀ i x y, i + 1 < k → xs[i]? = some x → xs[i + 1]? = some y → kt (Msg.k x) (Msg.k y) = true) ∧ Still w wr) (fun i _ => xs.length - nv i)
  case atStart => exact ⟨1, Nat.le_refl _, .inr rfl, rfl, Lib.hid (fun i x y h => by omega), Chg.refl _ w⟩
  case round =>
    obtain ⟨k, hk1, hk, rfl, HR, hs⟩ := hrel
    have HS := Lib.hid hs
    clear hs
    by_cases hlt : k < xs.length
    · obtain ⟨b, off, rfl, hb, hc0, -, -⟩ := (H.out.still HS.out).msg (k - 1) (by omega)
      obtain ⟨b2, off2, e2, hb2, hd0, -, -⟩ := (H.out.still HS.out).msg k hlt
      simp only [Option.some.injEq, Addr.mk.injEq] at e2
      obtain ⟨rfl, rfl, -⟩ := e2
      have hk2 : ((k - 1 : Nat) : Int) = (k : Int) - 1 := by omega
      obtain ⟨j, rfl⟩ : ∃ j, k = j + 1 := ⟨k - 1, by omega⟩
      clear hk2
      simp only [Nat.add_sub_cancel] at hc0
      have HX := Lib.hid (show xs[j]? = some xs[j] ∧ xs[j + 1]? = some xs[j + 1] from ⟨ge_some (by omega), ge_some (by omega)⟩)
      generalize xs[j] = x at hc0 HX
      generalize xs[j + 1] = y at hd0 HX
      go_wp2_with fail
      go_quiet ((go_at_call 28; exact rcompare_q x.k y.k wr _))
      by_cases hc : 0 ≤ kc x.k y.k
      · have HN : Hid (¬ Rises Msg.k xs) := fun hr => by
          have : kc x.k y.k < 0 := kc_lt.2 (hr j x y HX.out.1 HX.out.2)
          omega
        go_wp2
        go_ret
        exact ⟨false, rfl, Lib.hid ⟨fun h => by simp at h, fun h => absurd h HN.out⟩, HS.out.trans (Chg.drewN _ _)⟩
      · have HR2 : Hid (∀ i x y, i + 1 < j + 1 + 1 → xs[i]? = some x → xs[i + 1]? = some y → kt (Msg.k x) (Msg.k y) = true) := fun i x' y' h1 h2 h3 => by
          by_cases e : i = j
          · subst e
            rw [HX.out.1] at h2
            rw [HX.out.2] at h3
            simp only [Option.some.injEq] at h2 h3
            subst h2 h3
            exact kc_lt.1 (show kc x.k y.k < 0 by omega)
          · exact HR.out i x' y' (by omega) h2 h3
        go_wp2
        go_roundw
        case rel => exact ⟨j + 1 + 1, by omega, by omega, by go_num, HR2, HS.out.trans (Chg.drewN _ _)⟩
        case measure => simp [nv]; omega
    · have HN : Hid (Rises Msg.k xs) := fun i x y h1 h2 => by
        have := (List.getElem?_eq_some_iff.1 h2).1
        exact HR.out i x y (by omega) h1 h2
      clear HR
      go_wp2
      go_ret
      exact ⟨true, rfl, Lib.hid ⟨fun _ => HN.out, fun _ => rfl⟩, HS.out⟩

theorem right11 {w : World} {v : Value} {xs : List Pr} (h : Sl encP 2 w v xs) : Calls Try.prog 54 #[v] w (BoolP (Rises Pr.k xs) w) := by
  obtain ⟨A, c, rfl, hc1, hc2⟩ := h.form
  have H := Lib.hid h
  have hlen := h.lenLe
  clear h
  go_enter Try.func54, Try.ntmps54
  go_wp2_with fail
  go_loopw [3] (fun i wr => ∃ k : Nat, 1 ≤ k ∧ (k ≤ xs.length ∨ k = 1) ∧ i = .int .i64 (k : Nat) ∧ Hid (∀ i x y, i + 1 < k → xs[i]? = some x → xs[i + 1]? = some y → kt (Pr.k x) (Pr.k y) = true) ∧ Still w wr) (fun i _ => xs.length - nv i)
  case atStart => exact ⟨1, Nat.le_refl _, .inr rfl, rfl, Lib.hid (fun i x y h => by omega), Chg.refl _ w⟩
  case round =>
    obtain ⟨k, hk1, hk, rfl, HR, hs⟩ := hrel
    have HS := Lib.hid hs
    clear hs
    by_cases hlt : k < xs.length
    · obtain ⟨b, off, rfl, hb, hc0, -⟩ := (H.out.still HS.out).pr (k - 1) (by omega)
      obtain ⟨b2, off2, e2, hb2, hd0, -⟩ := (H.out.still HS.out).pr k hlt
      simp only [Option.some.injEq, Addr.mk.injEq] at e2
      obtain ⟨rfl, rfl, -⟩ := e2
      have hk2 : ((k - 1 : Nat) : Int) = (k : Int) - 1 := by omega
      obtain ⟨j, rfl⟩ : ∃ j, k = j + 1 := ⟨k - 1, by omega⟩
      clear hk2
      simp only [Nat.add_sub_cancel] at hc0
      have HX := Lib.hid (show xs[j]? = some xs[j] ∧ xs[j + 1]? = some xs[j + 1] from ⟨ge_some (by omega), ge_some (by omega)⟩)
      generalize xs[j] = x at hc0 HX
      generalize xs[j + 1] = y at hd0 HX
      go_wp2_with fail
      go_quiet ((go_at_call 28; exact rcompare_q x.k y.k wr _))
      by_cases hc : 0 ≤ kc x.k y.k
      · have HN : Hid (¬ Rises Pr.k xs) := fun hr => by
          have : kc x.k y.k < 0 := kc_lt.2 (hr j x y HX.out.1 HX.out.2)
          omega
        go_wp2
        go_ret
        exact ⟨false, rfl, Lib.hid ⟨fun h => by simp at h, fun h => absurd h HN.out⟩, HS.out.trans (Chg.drewN _ _)⟩
      · have HR2 : Hid (∀ i x y, i + 1 < j + 1 + 1 → xs[i]? = some x → xs[i + 1]? = some y → kt (Pr.k x) (Pr.k y) = true) := fun i x' y' h1 h2 h3 => by
          by_cases e : i = j
          · subst e
            rw [HX.out.1] at h2
            rw [HX.out.2] at h3
            simp only [Option.some.injEq] at h2 h3
            subst h2 h3
            exact kc_lt.1 (show kc x.k y.k < 0 by omega)
          · exact HR.out i x' y' (by omega) h2 h3
        go_wp2
        go_roundw
        case rel => exact ⟨j + 1 + 1, by omega, by omega, by go_num, HR2, HS.out.trans (Chg.drewN _ _)⟩
        case measure => simp [nv]; omega
    · have HN : Hid (Rises Pr.k xs) := fun i x y h1 h2 => by
        have := (List.getElem?_eq_some_iff.1 h2).1
        exact HR.out i x y (by omega) h1 h2
      clear HR
      go_wp2
      go_ret
      exact ⟨true, rfl, Lib.hid ⟨fun _ => HN.out, fun _ => rfl⟩, HS.out⟩

theorem rise12 {w : World} {v : Value} {xs : List K} (h : Sl encS 1 w v xs) : Calls Try.prog 64 #[v] w (BoolP (Rises id xs) w) := by
  obtain ⟨A, c, rfl, hc1, hc2⟩ := h.form
  have H := Lib.hid h
  have hlen := h.lenLe
  clear h
  go_enter Try.func64, Try.ntmps64
  go_wp2_with fail
  go_loopw [3] (fun i wr => ∃ k : Nat, 1 ≤ k ∧ (k ≤ xs.length ∨ k = 1) ∧ i = .int .i64 (k : Nat) ∧ Hid (∀ i x y, i + 1 < k → xs[i]? = some x → xs[i + 1]? = some y → kt (id x) (id y) = true) ∧ Still w wr) (fun i _ => xs.length - nv i)
  case atStart => exact ⟨1, Nat.le_refl _, .inr rfl, rfl, Lib.hid (fun i x y h => by omega), Chg.refl _ w⟩
  case round =>
    obtain ⟨k, hk1, hk, rfl, HR, hs⟩ := hrel
    have HS := Lib.hid hs
    clear hs
    by_cases hlt : k < xs.length
    · obtain ⟨b, off, rfl, hb, hc0⟩ := (H.out.still HS.out).s (k - 1) (by omega)
      obtain ⟨b2, off2, e2, hb2, hd0⟩ := (H.out.still HS.out).s k hlt
      simp only [Option.some.injEq, Addr.mk.injEq] at e2
      obtain ⟨rfl, rfl, -⟩ := e2
      have hk2 : ((k - 1 : Nat) : Int) = (k : Int) - 1 := by omega
      obtain ⟨j, rfl⟩ : ∃ j, k = j + 1 := ⟨k - 1, by omega⟩
      clear hk2
      simp only [Nat.add_sub_cancel] at hc0
      have HX := Lib.hid (show xs[j]? = some xs[j] ∧ xs[j + 1]? = some xs[j + 1] from ⟨ge_some (by omega), ge_some (by omega)⟩)
      generalize xs[j] = x at hc0 HX
      generalize xs[j + 1] = y at hd0 HX
      go_wp2_with fail
      go_quiet ((go_at_call 28; exact rcompare_q x y wr _))
      by_cases hc : 0 ≤ kc x y
      · have HN : Hid (¬ Rises id xs) := fun hr => by
          have : kc x y < 0 := kc_lt.2 (hr j x y HX.out.1 HX.out.2)
          omega
        go_wp2
        go_ret
        exact ⟨false, rfl, Lib.hid ⟨fun h => by simp at h, fun h => absurd h HN.out⟩, HS.out.trans (Chg.drewN _ _)⟩
      · have HR2 : Hid (∀ i x y, i + 1 < j + 1 + 1 → xs[i]? = some x → xs[i + 1]? = some y → kt (id x) (id y) = true) := fun i x' y' h1 h2 h3 => by
          by_cases e : i = j
          · subst e
            rw [HX.out.1] at h2
            rw [HX.out.2] at h3
            simp only [Option.some.injEq] at h2 h3
            subst h2 h3
            exact kc_lt.1 (show kc x y < 0 by omega)
          · exact HR.out i x' y' (by omega) h2 h3
        go_wp2
        go_roundw
        case rel => exact ⟨j + 1 + 1, by omega, by omega, by go_num, HR2, HS.out.trans (Chg.drewN _ _)⟩
        case measure => simp [nv]; omega
    · have HN : Hid (Rises id xs) := fun i x y h1 h2 => by
        have := (List.getElem?_eq_some_iff.1 h2).1
        exact HR.out i x y (by omega) h1 h2
      clear HR
      go_wp2
      go_ret
      exact ⟨true, rfl, Lib.hid ⟨fun _ => HN.out, fun _ => rfl⟩, HS.out⟩

theorem same10 {w : World} {v u : Value} {xs ys : List Msg} (h : Sl encM 3 w v xs) (g : Sl encM 3 w u ys) : Calls Try.prog 26 #[v, u] w (BoolP (xs = ys) w) := by
  obtain ⟨A, c, rfl, hc1, hc2⟩ := h.form
  obtain ⟨A2, c2, rfl, gc1, gc2⟩ := g.form
  have H := Lib.hid h
  have G := Lib.hid g
  have hlen := h.lenLe
  have glen := g.lenLe
  clear h g
  by_cases hl : (xs.length : Int) = (ys.length : Int)
  · have hne : ((xs.length : Int) != (ys.length : Int)) = false := by simp [hl]
    have HL : Hid (xs.length = ys.length) := Lib.hid (by omega)
    clear hl
    go_enter Try.func26, Try.ntmps26
    go_wp2_with fail
    go_loopw [5] (fun i wr => ∃ k : Nat, k ≤ xs.length ∧ i = .int .i64 (k : Nat) ∧ Hid (xs.take k = ys.take k) ∧ Still w wr) (fun i _ => xs.length - nv i)
    case atStart => exact ⟨0, Nat.zero_le _, rfl, Lib.hid rfl, Chg.refl _ w⟩
    case round =>
      obtain ⟨k, hk, rfl, HR, hs⟩ := hrel
      have HS := Lib.hid hs
      clear hs
      by_cases hlt : k < xs.length
      · have hlt2 : k < ys.length := by have := HL.out; omega
        obtain ⟨b, off, rfl, hb, hc0, hc1, hc2⟩ := (H.out.still HS.out).msg k hlt
        obtain ⟨b2, off2, rfl, hb2, hd0, hd1, hd2⟩ := (G.out.still HS.out).msg k hlt2
        have HX := Lib.hid (show xs[k]? = some xs[k] ∧ ys[k]? = some ys[k] ∧ xs.take (k + 1) = xs.take k ++ [xs[k]] ∧ ys.take (k + 1) = ys.take k ++ [ys[k]] from ⟨ge_some hlt, ge_some hlt2, List.take_succ_eq_append_getElem hlt, List.take_succ_eq_append_getElem hlt2⟩)
        generalize xs[k] = x at hc0 hc1 hc2 HX
        generalize ys[k] = y at hd0 hd1 hd2 HX
        obtain ⟨xk, xd, xv⟩ := x
        obtain ⟨yk, yd, yv⟩ := y
        by_cases e1 : xk = yk
        · subst e1
          by_cases e3 : xd = yd
          · subst e3
            by_cases e2 : xv = yv
            · subst e2
              have HE := Lib.hid (show xs.take (k + 1) = ys.take (k + 1) by rw [HX.out.2.2.1, HX.out.2.2.2, HR.out])
              go_wp2_with fail
              go_region
              go_wp2
              go_roundw
              case rel => exact ⟨k + 1, by omega, by go_num, HE, HS.out.trans (Chg.drew _)⟩
              case measure => simp [nv]; omega
            · have hk := kne e2
              have HE : Hid (¬ xs = ys) := Lib.hid (fun e0 => by
                have h1 := HX.out.1
                rw [e0, HX.out.2.1] at h1
                simp only [Option.some.injEq] at h1
                exact e2 (congrArg Msg.v h1.symm))
              go_wp2_with fail
              go_region
              go_wp2
              go_ret
              exact ⟨false, rfl, Lib.hid ⟨fun h => by simp at h, fun h => absurd h HE.out⟩, HS.out.trans (Chg.drew _)⟩
          · have hk : ¬ xd = yd := e3
            have HE : Hid (¬ xs = ys) := Lib.hid (fun e0 => by
              have h1 := HX.out.1
              rw [e0, HX.out.2.1] at h1
              simp only [Option.some.injEq] at h1
              exact e3 (congrArg Msg.d h1.symm))
            go_wp2_with fail
            go_region
            go_wp2
            go_ret
            exact ⟨false, rfl, Lib.hid ⟨fun h => by simp at h, fun h => absurd h HE.out⟩, HS.out.trans (Chg.drew _)⟩
        · have hk := kne e1
          have HE : Hid (¬ xs = ys) := Lib.hid (fun e0 => by
            have h1 := HX.out.1
            rw [e0, HX.out.2.1] at h1
            simp only [Option.some.injEq] at h1
            exact e1 (congrArg Msg.k h1.symm))
          go_wp2_with fail
          go_region
          go_wp2
          go_ret
          exact ⟨false, rfl, Lib.hid ⟨fun h => by simp at h, fun h => absurd h HE.out⟩, HS.out.trans (Chg.drew _)⟩
      · have HE : Hid (xs = ys) := Lib.hid (by
          have h1 := HR.out
          have h2 : k = xs.length := by omega
          rw [h2, List.take_length, HL.out, List.take_length] at h1
          exact h1)
        clear HR
        go_wp2
        go_ret
        exact ⟨true, rfl, Lib.hid ⟨fun _ => HE.out, fun _ => rfl⟩, HS.out⟩
  · have hne : ((xs.length : Int) != (ys.length : Int)) = true := by simp [hl]
    have HE : Hid (¬ xs = ys) := Lib.hid (fun e => hl (by rw [e]))
    clear hl
    go_enter Try.func26, Try.ntmps26
    go_wp2
    go_ret
    exact ⟨false, rfl, Lib.hid ⟨fun h => by simp at h, fun h => absurd h HE.out⟩, Chg.refl _ w⟩

theorem same11 {w : World} {v u : Value} {xs ys : List Pr} (h : Sl encP 2 w v xs) (g : Sl encP 2 w u ys) : Calls Try.prog 27 #[v, u] w (BoolP (xs = ys) w) := by
  obtain ⟨A, c, rfl, hc1, hc2⟩ := h.form
  obtain ⟨A2, c2, rfl, gc1, gc2⟩ := g.form
  have H := Lib.hid h
  have G := Lib.hid g
  have hlen := h.lenLe
  have glen := g.lenLe
  clear h g
  by_cases hl : (xs.length : Int) = (ys.length : Int)
  · have hne : ((xs.length : Int) != (ys.length : Int)) = false := by simp [hl]
    have HL : Hid (xs.length = ys.length) := Lib.hid (by omega)
    clear hl
    go_enter Try.func27, Try.ntmps27
    go_wp2_with fail
    go_loopw [5] (fun i wr => ∃ k : Nat, k ≤ xs.length ∧ i = .int .i64 (k : Nat) ∧ Hid (xs.take k = ys.take k) ∧ Still w wr) (fun i _ => xs.length - nv i)
    case atStart => exact ⟨0, Nat.zero_le _, rfl, Lib.hid rfl, Chg.refl _ w⟩
    case round =>
      obtain ⟨k, hk, rfl, HR, hs⟩ := hrel
      have HS := Lib.hid hs
      clear hs
      by_cases hlt : k < xs.length
      · have hlt2 : k < ys.length := by have := HL.out; omega
        obtain ⟨b, off, rfl, hb, hc0, hc1⟩ := (H.out.still HS.out).pr k hlt
        obtain ⟨b2, off2, rfl, hb2, hd0, hd1⟩ := (G.out.still HS.out).pr k hlt2
        have HX := Lib.hid (show xs[k]? = some xs[k] ∧ ys[k]? = some ys[k] ∧ xs.take (k + 1) = xs.take k ++ [xs[k]] ∧ ys.take (k + 1) = ys.take k ++ [ys[k]] from ⟨ge_some hlt, ge_some hlt2, List.take_succ_eq_append_getElem hlt, List.take_succ_eq_append_getElem hlt2⟩)
        generalize xs[k] = x at hc0 hc1 HX
        generalize ys[k] = y at hd0 hd1 HX
        obtain ⟨xk, xv⟩ := x
        obtain ⟨yk, yv⟩ := y
        by_cases e1 : xk = yk
        · subst e1
          by_cases e2 : xv = yv
          · subst e2
            have HE := Lib.hid (show xs.take (k + 1) = ys.take (k + 1) by rw [HX.out.2.2.1, HX.out.2.2.2, HR.out])
            go_wp2_with fail
            go_region
            go_wp2
            go_roundw
            case rel => exact ⟨k + 1, by omega, by go_num, HE, HS.out.trans (Chg.drew _)⟩
            case measure => simp [nv]; omega
          · have hk := kne e2
            have HE : Hid (¬ xs = ys) := Lib.hid (fun e0 => by
              have h1 := HX.out.1
              rw [e0, HX.out.2.1] at h1
              simp only [Option.some.injEq] at h1
              exact e2 (congrArg Pr.v h1.symm))
            go_wp2_with fail
            go_region
            go_wp2
            go_ret
            exact ⟨false, rfl, Lib.hid ⟨fun h => by simp at h, fun h => absurd h HE.out⟩, HS.out.trans (Chg.drew _)⟩
        · have hk := kne e1
          have HE : Hid (¬ xs = ys) := Lib.hid (fun e0 => by
            have h1 := HX.out.1
            rw [e0, HX.out.2.1] at h1
            simp only [Option.some.injEq] at h1
            exact e1 (congrArg Pr.k h1.symm))
          go_wp2_with fail
          go_region
          go_wp2
          go_ret
          exact ⟨false, rfl, Lib.hid ⟨fun h => by simp at h, fun h => absurd h HE.out⟩, HS.out.trans (Chg.drew _)⟩
      · have HE : Hid (xs = ys) := Lib.hid (by
          have h1 := HR.out
          have h2 : k = xs.length := by omega
          rw [h2, List.take_length, HL.out, List.take_length] at h1
          exact h1)
        clear HR
        go_wp2
        go_ret
        exact ⟨true, rfl, Lib.hid ⟨fun _ => HE.out, fun _ => rfl⟩, HS.out⟩
  · have hne : ((xs.length : Int) != (ys.length : Int)) = true := by simp [hl]
    have HE : Hid (¬ xs = ys) := Lib.hid (fun e => hl (by rw [e]))
    clear hl
    go_enter Try.func27, Try.ntmps27
    go_wp2
    go_ret
    exact ⟨false, rfl, Lib.hid ⟨fun h => by simp at h, fun h => absurd h HE.out⟩, Chg.refl _ w⟩

theorem same12 {w : World} {v u : Value} {xs ys : List K} (h : Sl encS 1 w v xs) (g : Sl encS 1 w u ys) : Calls Try.prog 25 #[v, u] w (BoolP (xs = ys) w) := by
  obtain ⟨A, c, rfl, hc1, hc2⟩ := h.form
  obtain ⟨A2, c2, rfl, gc1, gc2⟩ := g.form
  have H := Lib.hid h
  have G := Lib.hid g
  have hlen := h.lenLe
  have glen := g.lenLe
  clear h g
  by_cases hl : (xs.length : Int) = (ys.length : Int)
  · have hne : ((xs.length : Int) != (ys.length : Int)) = false := by simp [hl]
    have HL : Hid (xs.length = ys.length) := Lib.hid (by omega)
    clear hl
    go_enter Try.func25, Try.ntmps25
    go_wp2_with fail
    go_loopw [5] (fun i wr => ∃ k : Nat, k ≤ xs.length ∧ i = .int .i64 (k : Nat) ∧ Hid (xs.take k = ys.take k) ∧ Still w wr) (fun i _ => xs.length - nv i)
    case atStart => exact ⟨0, Nat.zero_le _, rfl, Lib.hid rfl, Chg.refl _ w⟩
    case round =>
      obtain ⟨k, hk, rfl, HR, hs⟩ := hrel
      have HS := Lib.hid hs
      clear hs
      by_cases hlt : k < xs.length
      · have hlt2 : k < ys.length := by have := HL.out; omega
        obtain ⟨b, off, rfl, hb, hc0⟩ := (H.out.still HS.out).s k hlt
        obtain ⟨b2, off2, rfl, hb2, hd0⟩ := (G.out.still HS.out).s k hlt2
        have HX := Lib.hid (show xs[k]? = some xs[k] ∧ ys[k]? = some ys[k] ∧ xs.take (k + 1) = xs.take k ++ [xs[k]] ∧ ys.take (k + 1) = ys.take k ++ [ys[k]] from ⟨ge_some hlt, ge_some hlt2, List.take_succ_eq_append_getElem hlt, List.take_succ_eq_append_getElem hlt2⟩)
        generalize xs[k] = x at hc0 HX
        generalize ys[k] = y at hd0 HX
        by_cases e : x = y
        · subst e
          have HE := Lib.hid (show xs.take (k + 1) = ys.take (k + 1) by rw [HX.out.2.2.1, HX.out.2.2.2, HR.out])
          go_wp2_with fail
          go_region
          go_wp2
          go_roundw
          case rel => exact ⟨k + 1, by omega, by go_num, HE, HS.out.trans (Chg.drew _)⟩
          case measure => simp [nv]; omega
        · have hk := kneB e
          have HE : Hid (¬ xs = ys) := Lib.hid (fun e0 => by
            have h1 := HX.out.1
            rw [e0, HX.out.2.1] at h1
            simp only [Option.some.injEq] at h1
            exact e h1.symm)
          go_wp2_with fail
          go_region
          go_wp2
          go_ret
          exact ⟨false, rfl, Lib.hid ⟨fun h => by simp at h, fun h => absurd h HE.out⟩, HS.out.trans (Chg.drew _)⟩
      · have HE : Hid (xs = ys) := Lib.hid (by
          have h1 := HR.out
          have h2 : k = xs.length := by omega
          rw [h2, List.take_length, HL.out, List.take_length] at h1
          exact h1)
        clear HR
        go_wp2
        go_ret
        exact ⟨true, rfl, Lib.hid ⟨fun _ => HE.out, fun _ => rfl⟩, HS.out⟩
  · have hne : ((xs.length : Int) != (ys.length : Int)) = true := by simp [hl]
    have HE : Hid (¬ xs = ys) := Lib.hid (fun e => hl (by rw [e]))
    clear hl
    go_enter Try.func25, Try.ntmps25
    go_wp2
    go_ret
    exact ⟨false, rfl, Lib.hid ⟨fun h => by simp at h, fun h => absurd h HE.out⟩, Chg.refl _ w⟩

theorem blocks {w : World} {v u : Value} {xs ys : List U} (h : Sl encU 1 w v xs) (g : Sl encU 1 w u ys) : Calls Try.prog 24 #[v, u] w (BoolP (xs = ys) w) := by
  obtain ⟨A, c, rfl, hc1, hc2⟩ := h.form
  obtain ⟨A2, c2, rfl, gc1, gc2⟩ := g.form
  have H := Lib.hid h
  have G := Lib.hid g
  have hlen := h.lenLe
  have glen := g.lenLe
  clear h g
  by_cases hl : (xs.length : Int) = (ys.length : Int)
  · have hne : ((xs.length : Int) != (ys.length : Int)) = false := by simp [hl]
    have HL : Hid (xs.length = ys.length) := Lib.hid (by omega)
    clear hl
    go_enter Try.func24, Try.ntmps24
    go_wp2_with fail
    go_loopw [5] (fun i wr => ∃ k : Nat, k ≤ xs.length ∧ i = .int .i64 (k : Nat) ∧ Hid (xs.take k = ys.take k) ∧ Still w wr) (fun i _ => xs.length - nv i)
    case atStart => exact ⟨0, Nat.zero_le _, rfl, Lib.hid rfl, Chg.refl _ w⟩
    case round =>
      obtain ⟨k, hk, rfl, HR, hs⟩ := hrel
      have HS := Lib.hid hs
      clear hs
      by_cases hlt : k < xs.length
      · have hlt2 : k < ys.length := by have := HL.out; omega
        obtain ⟨b, off, rfl, hb, hc0⟩ := (H.out.still HS.out).u k hlt
        obtain ⟨b2, off2, rfl, hb2, hd0⟩ := (G.out.still HS.out).u k hlt2
        have HX := Lib.hid (show xs[k]? = some xs[k] ∧ ys[k]? = some ys[k] ∧ xs.take (k + 1) = xs.take k ++ [xs[k]] ∧ ys.take (k + 1) = ys.take k ++ [ys[k]] from ⟨ge_some hlt, ge_some hlt2, List.take_succ_eq_append_getElem hlt, List.take_succ_eq_append_getElem hlt2⟩)
        generalize xs[k] = x at hc0 HX
        generalize ys[k] = y at hd0 HX
        by_cases e : x = y
        · subst e
          have HE := Lib.hid (show xs.take (k + 1) = ys.take (k + 1) by rw [HX.out.2.2.1, HX.out.2.2.2, HR.out])
          go_wp2_with fail
          go_region
          go_wp2
          go_roundw
          case rel => exact ⟨k + 1, by omega, by go_num, HE, HS.out.trans (Chg.drew _)⟩
          case measure => simp [nv]; omega
        · have hk := une e
          have HE : Hid (¬ xs = ys) := Lib.hid (fun e0 => by
            have h1 := HX.out.1
            rw [e0, HX.out.2.1] at h1
            simp only [Option.some.injEq] at h1
            exact e h1.symm)
          go_wp2_with fail
          go_region
          go_wp2
          go_ret
          exact ⟨false, rfl, Lib.hid ⟨fun h => by simp at h, fun h => absurd h HE.out⟩, HS.out.trans (Chg.drew _)⟩
      · have HE : Hid (xs = ys) := Lib.hid (by
          have h1 := HR.out
          have h2 : k = xs.length := by omega
          rw [h2, List.take_length, HL.out, List.take_length] at h1
          exact h1)
        clear HR
        go_wp2
        go_ret
        exact ⟨true, rfl, Lib.hid ⟨fun _ => HE.out, fun _ => rfl⟩, HS.out⟩
  · have hne : ((xs.length : Int) != (ys.length : Int)) = true := by simp [hl]
    have HE : Hid (¬ xs = ys) := Lib.hid (fun e => hl (by rw [e]))
    clear hl
    go_enter Try.func24, Try.ntmps24
    go_wp2
    go_ret
    exact ⟨false, rfl, Lib.hid ⟨fun h => by simp at h, fun h => absurd h HE.out⟩, Chg.refl _ w⟩
end Go.Proofs.Ytekoibglogoaaaa
