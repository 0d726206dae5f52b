/- Doing what messages say to pairs. -/
import Derived.Test.YtekoibglogoaaaaPl
namespace Go.Proofs.Ytekoibglogoaaaa
open Go Go.RowKit Go.Shelf
set_option linter.unusedVariables false
set_option linter.unusedSimpArgs false

def PairsP (zs : List Pr) (w : World) (e : Ending) (w' : World) : Prop := ∃ v', e = .returned v' ∧ SlF w.heap.size encP 2 w' v' zs ∧ Still w w'
theorem app_own {B : Nat} {w w' : World} (hs : Chg (fun k => B ≤ k) w w') {w0 : World} (hB : B = w0.heap.size) (h0 : Still w0 w) : Still w0 w' :=
  h0.then hs (fun i hi => .inr (by omega))

set_option maxRecDepth 100000 in
set_option maxHeartbeats 2000000 in
theorem apply19 {w : World} {v1 v2 : Value} {xs : List Pr} {ms : List Msg} (h1 : Sl encP 2 w v1 xs) (h2 : Sl encM 3 w v2 ms) (hr : Rises Pr.k xs) (n1 : xs.length ≤ 400000) (n2 : ms.length ≤ 400000) :
    Calls Try.prog 19 #[v1, v2] w (PairsP (appL xs ms) w) := by
  have HC := clone41 h1 (by omega)
  obtain ⟨A2, c2, rfl, qa2, qb2⟩ := h2.form
  have H2 := Lib.hid h2
  have HR0 := Lib.hid hr
  clear h1 h2 hr
  go_enter Try.func19, Try.ntmps19
  go_wp2_with fail
  refine HC.mono ?_
  rintro e w1 ⟨v5, rfl, ho, hs⟩
  have HO1 := Lib.hid ho
  have HS1 := Lib.hid hs
  clear ho hs HC
  go_wp2_with fail
  go_loopw [5, 14] (fun v i wr => ∃ (k : Nat) (out : List Pr), k ≤ ms.length ∧ i = .int .i64 (k : Nat) ∧ Hid (wr.ownsRow w.heap.size 47 2 v out.length (out.flatMap encP)) ∧ Hid (out = appL xs (ms.take k)) ∧ Still w wr) (fun _ i _ => ms.length - nv i)
  case atStart => exact ⟨0, xs, Nat.zero_le _, rfl, HO1, Lib.hid rfl, HS1.out⟩
  clear HO1 HS1
  case round =>
    obtain ⟨k, out, hk, rfl, HO, HE, hs⟩ := hrel
    have HS := Lib.hid hs
    clear hs
    by_cases hlt : k < ms.length
    · have HRO : Hid (Rises Pr.k out) := Lib.hid (by rw [HE.out]; exact appL_rises _ HR0.out)
      have hol : out.length ≤ 800000 := by
        have := appL_len (ms.take k) xs
        rw [← HE.out, List.length_take] at this
        omega
      obtain ⟨b, off, rfl, hb, x0, x1, x2⟩ := (H2.out.still HS.out).msg k hlt
      have HX := Lib.hid (ge_some hlt)
      have HN : Hid (appL xs (ms.take (k + 1)) = app1 out ms[k]) := Lib.hid (by rw [List.take_succ_eq_append_getElem hlt, appL_snoc, ← HE.out])
      generalize ms[k] = m at x0 x1 x2 HX HN
      obtain ⟨key, del, val⟩ := m
      simp only at x0 x1 x2
      have HAE := Lib.hid (fun a b => app1_erase (m := ⟨key, del, val⟩) HRO.out a b)
      have HAS := Lib.hid (fun a b => app1_set (m := ⟨key, del, val⟩) HRO.out a b)
      have HAI := Lib.hid (fun a b => app1_ins (m := ⟨key, del, val⟩) HRO.out a b)
      have HAN := Lib.hid (fun a b => app1_none (m := ⟨key, del, val⟩) HRO.out a b)
      have hpl := posN_le Pr.k out key
      have HAT : Hid (isAt Pr.k out (posN Pr.k out key) key = true → ∃ x, out[posN Pr.k out key]? = some x ∧ x.k = key) := Lib.hid (fun h => by
        rcases (pos_take (k := key) HRO.out.pw).2 with ⟨-, -, h⟩ | ⟨h2, -⟩
        · exact h
        · rw [h] at h2; simp at h2)
      have hv := own_split HO.out
      go_wp2_with fail
      refine (bsf45 (own_sl lenP (by decide) (own_still HO.out (Chg.alloc _ _))) HRO.out (by omega) key).mono ?_
      rintro e w2 ⟨rfl, hs⟩
      have l0 := hs.cell (heap_cell (j := 0) (heap_alloc_new wr (.cells #[.string key.1, .bool del, .string val.1] 45)) rfl) id
      have l1 := hs.cell (heap_cell (j := 1) (heap_alloc_new wr (.cells #[.string key.1, .bool del, .string val.1] 45)) rfl) id
      have l2 := hs.cell (heap_cell (j := 2) (heap_alloc_new wr (.cells #[.string key.1, .bool del, .string val.1] 45)) rfl) id
      have HO2 := Lib.hid (own_still (own_still HO.out (Chg.alloc _ (.cells #[.string key.1, .bool del, .string val.1] 45))) hs)
      have HS2 := Lib.hid ((HS.out.allocs (.cells #[.string key.1, .bool del, .string val.1] 45)).trans hs)
      clear hs x0 x1 x2
      generalize hp : posN Pr.k out key = p at *
      generalize hf : isAt Pr.k out p key = f at *
      clear hp hf
      have HBB := Lib.hid HS2.out.size
      cases f with
      | true =>
        obtain ⟨xo, hxo, hxk⟩ := HAT.out rfl
        have hpo : p < out.length := (List.getElem?_eq_some_iff.1 hxo).1
        obtain ⟨g, cap, rfl⟩ : ∃ g cap, u5 = .slice (some ⟨g, 0, none⟩) out.length cap := by
          rcases hv with ⟨-, h0⟩ | h
          · omega
          · exact h
        have HXO := Lib.hid (And.intro hxo hxk)
        clear hxo hxk hv HAT HAI HAN
        cases del with
        | true =>
          have HA1 : Hid (app1 out ⟨key, true, val⟩ = out.eraseIdx p) := Lib.hid (HAE.out rfl rfl)
          clear HAE HAS
          go_wp2_with fail
          refine (delete47 HO2.out hpo (by omega)).mono ?_
          rintro e w3 ⟨rfl, ho, hs⟩
          have HO3 := Lib.hid ho
          have HS3 : Hid (Still w w3) := Lib.hid (HS2.out.then hs (fun i hi => .inr (by rw [show i = g from hi]; exact (HO2.out.lt g rfl).1)))
          clear ho hs
          have hel : (out.eraseIdx p).length = out.length - 1 := by rw [List.length_eraseIdx, if_pos hpo]
          have HEL := Lib.hid hel
          clear hel
          go_wp2
          go_roundw
          case rel => exact ⟨k + 1, out.eraseIdx p, by omega, by go_num, HO3, Lib.hid (by rw [HN.out, HA1.out]), HS3.out⟩
          case measure => simp [nv]; omega
        | false =>
          have HA1 : Hid (app1 out ⟨key, false, val⟩ = out.set p ⟨key, val⟩) := Lib.hid (HAS.out rfl rfl)
          clear HAE HAS
          obtain ⟨-, hB, hcap, hmax, tl, hrow, hcl, hxl⟩ := own_row HO2.out
          have HROW := Lib.hid hrow
          have HCL := Lib.hid (And.intro hcl hxl)
          have hj : p * 2 + 1 < (out.flatMap encP ++ tl).length := by rw [List.length_append, hxl]; omega
          have r1 := RowAt.cell hrow (p * 2 + 1) _ (List.getElem?_eq_getElem hj)
          have f1 : w2.frozen? ⟨g, p * 2 + 1, none⟩ = false := heap_free hrow
          have hc2 : cap ≤ 9223372036854775807 := hmax
          generalize (out.flatMap encP ++ tl)[p * 2 + 1] = old at r1
          have HHJ := Lib.hid hj
          clear hrow hcl hxl hj
          obtain ⟨w3, hw3⟩ : ∃ w3, w3 = w2.setCell ⟨g, p * 2 + 1, none⟩ (.string val.1) := ⟨_, rfl⟩
          have HS3 : Hid (Still w w3) := Lib.hid (by rw [hw3]; exact HS2.out.then (Chg.setCell (S := fun k => k = g) w2 _ _ rfl) (fun i hi => .inr (by rw [show i = g from hi]; exact hB)))
          have HO3 : Hid (w3.ownsRow w.heap.size 47 2 (.slice (some ⟨g, 0, none⟩) (out.set p ⟨key, val⟩).length cap) (out.set p ⟨key, val⟩).length ((out.set p ⟨key, val⟩).flatMap encP)) := Lib.hid (by
            have h := heap_set (j := p * 2 + 1) HROW.out (.string val.1)
            rw [← hw3, List.setIfInBounds_toArray, List.set_append_left _ _ (by rw [HCL.out.2]; omega), flat_set out p xo val HXO.out.1, HXO.out.2] at h
            refine row_own h hB (by rw [List.length_set]; exact hcap) hmax ?_ (by rw [flat_len lenP])
            rw [List.length_append, flat_len lenP, List.length_set, ← HCL.out.1, List.length_append, HCL.out.2])
          have hsl : (out.set p ⟨key, val⟩).length = out.length := List.length_set
          rw [hsl] at HO3
          have HSL := Lib.hid hsl
          have HW3 := Lib.hid hw3.symm
          clear hsl
          go_wp2_with fail
          rw [HW3.out]
          go_roundw
          case rel => exact ⟨k + 1, out.set p ⟨key, val⟩, by omega, by go_num, by rw [HSL.out]; exact HO3, Lib.hid (by rw [HN.out, HA1.out]), HS3.out⟩
          case measure => simp [nv]; omega
      | false =>
        clear HAT HAE HAS
        cases del with
        | true =>
          have HA1 : Hid (app1 out ⟨key, true, val⟩ = out) := Lib.hid (HAN.out rfl rfl)
          clear HAI HAN
          go_wp2
          go_roundw
          case rel => exact ⟨k + 1, out, by omega, by go_num, HO2, Lib.hid (by rw [HN.out, HA1.out]), HS2.out⟩
          case measure => simp [nv]; omega
        | false =>
          have HA1 : Hid (app1 out ⟨key, false, val⟩ = insL out p ⟨key, val⟩) := Lib.hid (HAI.out rfl rfl)
          clear HAI HAN
          have HIN : Hid (∀ b w4, b = w2.heap.size → w4 = w2.alloc (.cells #[.string key.1, .string val.1] 47) → Calls Try.prog 48 #[u5, .int .i64 (p : Nat), .slice (some ⟨b, 0, none⟩) 1 1] w4 (InsP w.heap.size p ⟨key, val⟩ out w4)) := Lib.hid (fun b w4 hb4 hw4 => by
            subst hb4 hw4
            have ho4 := own_still HO2.out (Chg.alloc w2 (.cells #[.string key.1, .string val.1] 47))
            have hsz4 : w.heap.size ≤ (w2.alloc (.cells #[.string key.1, .string val.1] 47)).heap.size := by rw [size_al]; have := HBB.out; omega
            by_cases e : p = out.length
            · subst e
              exact insA ho4 (one_sl lenP w2 (⟨key, val⟩ : Pr) 47 #[.string key.1, .string val.1] rfl) (by omega) hsz4
            · rcases hv with ⟨-, h0⟩ | ⟨g, cap, rfl⟩
              · omega
              · have hrx : RowAt (w2.alloc (.cells #[.string key.1, .string val.1] 47)) w2.heap.size 47 [.string (⟨key, val⟩ : Pr).k.1, .string (⟨key, val⟩ : Pr).v.1] := heap_alloc_new w2 _
                obtain ⟨-, hB, hcap, hmax, -⟩ := own_row HO2.out
                have hgl := (HO2.out.lt g rfl).2
                by_cases hroom : out.length < cap
                · exact insC ho4 hrx (by omega) (by omega) hroom (by omega)
                · obtain rfl : cap = out.length := by omega
                  exact insB ho4 hrx (by omega) (by omega) hsz4)
          clear hv
          go_wp2_with fail
          refine (HIN.out _ _ rfl rfl).mono ?_
          rintro e w5 ⟨v6, rfl, ho, hs⟩
          have HO3 := Lib.hid ho
          have HS3 : Hid (Still w w5) := Lib.hid ((HS2.out.allocs _).then hs (fun i hi => .inr hi))
          clear ho hs HIN
          go_wp2
          go_roundw
          case rel => exact ⟨k + 1, insL out p ⟨key, val⟩, by omega, by go_num, HO3, Lib.hid (by rw [HN.out, HA1.out]), HS3.out⟩
          case measure => simp [nv]; omega
    · have HE2 : Hid (out = appL xs ms) := Lib.hid (by rw [HE.out, List.take_of_length_le (by omega)])
      go_wp2
      go_ret
      exact ⟨_, rfl, by rw [← HE2.out]; exact own_slf lenP (by decide) HO.out (Nat.le_refl _), HS.out⟩
end Go.Proofs.Ytekoibglogoaaaa
