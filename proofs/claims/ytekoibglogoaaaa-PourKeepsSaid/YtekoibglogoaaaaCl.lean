/- Inner nodes that may be, by their contract. -/
import Derived.Test.YtekoibglogoaaaaCk
import Derived.Laws.BitsLemmas
namespace Go.Proofs.Ytekoibglogoaaaa
open Go Go.RowKit Go.Shelf
set_option linter.unusedVariables false
set_option linter.unusedSimpArgs false

def okU (c : Conf) (x : U) : Prop := x.1 ≠ 0 ∧ x.1 < c.blocks
def KidsP (c : Conf) (l : List U) : Prop := (∀ (i : Nat) (x : U), l[i]? = some x → okU c x) ∧ (∀ (i j : Nat) (x y : U), j < i → l[i]? = some x → l[j]? = some y → y ≠ x)
def okMsg (c : Conf) (s : Sp) (m : Msg) : Bool := keyB c m.k && inSp s m.k && valB c m.v && (!m.d || decide (m.v = k0))
structure InnerP (c : Conf) (s : Sp) (n : Nd) : Prop where
  kids : KidsP c n.kids
  keys : ∀ (i : Nat) (k : K), n.piv[i]? = some k → keyB c k = true
  msgs : ∀ (i : Nat) (m : Msg), n.buf[i]? = some m → okMsg c s m = true
  lev : n.lev ≤ 40
  prs : n.prs.length = 0
  one : 1 ≤ n.kids.length
  fan : (n.kids.length : Int) ≤ c.fan
  pivs : n.piv.length + 1 = n.kids.length
  piv : PivP s n.piv
  room : (n.buf.length : Int) ≤ c.buffer
  rise : Rises Msg.k n.buf
theorem keep8b {W0 w w' : World} {g b o : Nat} {x0 x1 x2 x3 x4 x5 x6 x7 x8 x9 : Value} (h : w.cell? ⟨g, 0, none⟩ = some x0 ∧ w.cell? ⟨g, 1, none⟩ = some x1 ∧ w.cell? ⟨g, 2, none⟩ = some x2 ∧ w.cell? ⟨g, 3, none⟩ = some x3 ∧ w.cell? ⟨g, 4, none⟩ = some x4 ∧ w.cell? ⟨g, 5, none⟩ = some x5 ∧ w.cell? ⟨g, 6, none⟩ = some x6 ∧ w.cell? ⟨g, 7, none⟩ = some x7 ∧ w.cell? ⟨g + 1 + 1, 2, none⟩ = some x8 ∧ w.cell? ⟨b, o, none⟩ = some x9 ∧ Still W0 w) (hs : Still w w') :
    w'.cell? ⟨g, 0, none⟩ = some x0 ∧ w'.cell? ⟨g, 1, none⟩ = some x1 ∧ w'.cell? ⟨g, 2, none⟩ = some x2 ∧ w'.cell? ⟨g, 3, none⟩ = some x3 ∧ w'.cell? ⟨g, 4, none⟩ = some x4 ∧ w'.cell? ⟨g, 5, none⟩ = some x5 ∧ w'.cell? ⟨g, 6, none⟩ = some x6 ∧ w'.cell? ⟨g, 7, none⟩ = some x7 ∧ w'.cell? ⟨g + 1 + 1, 2, none⟩ = some x8 ∧ w'.cell? ⟨b, o, none⟩ = some x9 ∧ Still W0 w' := by
  obtain ⟨h0, h1, h2, h3, h4, h5, h6, h7, h8, h9, h10⟩ := h
  exact ⟨hs.cell h0 id, hs.cell h1 id, hs.cell h2 id, hs.cell h3 id, hs.cell h4 id, hs.cell h5 id, hs.cell h6 id, hs.cell h7 id, hs.cell h8 id, hs.cell h9 id, h10.trans hs⟩

theorem wrap64 (x : U) : IntKind.i64.wrap x.1 = x.1 := by
  have := x.2
  rw [IntKind.wrap_i64]
  omega
theorem uneB {a b : U} (h : a ≠ b) : (a.1 == b.1) = false := beq_eq_false_iff_ne.2 (fun e => h (Subtype.ext e))
set_option maxRecDepth 100000 in
set_option maxHeartbeats 4000000 in
theorem inner13 (c : Conf) (s : Sp) {w : World} {v : Value} {n : Nd} (h : NodeV w v n) (hsm : n.piv.length ≤ 4294967296) : Calls Try.prog 31 #[.agg c.vs, s.v, v] w (BoolP (InnerP c s n) w) := by
  obtain ⟨v1, v2, v3, v4, rfl, h1, h2, h3, h4⟩ := h
  have HB := Lib.hid (Boxed.new c s n h1 h2 h3 h4)
  obtain ⟨A1, c1, rfl, a1, b1⟩ := h1.form
  obtain ⟨A2, c2, rfl, a2, b2⟩ := h2.form
  obtain ⟨A3, c3, rfl, a3, b3⟩ := h3.form
  obtain ⟨A4, c4, rfl, a4, b4⟩ := h4.form
  have HK := key13 c
  have HI := in1_ s
  have HRP : Hid (∀ (w : World) (v : Value) (l : List K), Sl encS 1 w v l → Calls Try.prog 55 #[v, s.v] w (BoolP (PivP s l) w)) := Lib.hid (fun w v l h => right12 s h)
  have HT : Hid (∀ w', InnerP c s n → Still w w' → BoolP (InnerP c s n) w (.returned (.bool true)) w') := fun w' => BoolP.t
  have HF : Hid (∀ w', ¬ InnerP c s n → Still w w' → BoolP (InnerP c s n) w (.returned (.bool false)) w') := fun w' => BoolP.f
  have HD : Hid (InnerP c s n ↔ InnerP c s n) := Lib.hid Iff.rfl
  have HD2 : Hid (InnerP c s n → InnerP c s n) := Lib.hid (fun h => h)
  generalize hop : InnerP c s n = OP at HT HF
  have HOP := Lib.hid hop
  clear h1 h2 h3 h4 hop HD HD2
  unfold Sp.v Conf.vs at *
  go_enter Try.func31, Try.ntmps31
  go_wp2_with fail
  generalize (((w.alloc (.cells #[.int .i64 c.blocks, .int .i64 c.bytes, .int .i64 c.frames, .int .i64 c.fan, .int .i64 c.buffer, .int .i64 c.leaf, .int .i64 c.key, .int .i64 c.val] 23)).alloc (.cells #[.string s.lo.1, .string s.hi.1, .bool s.top] 37)).alloc (.cells #[.int .i64 n.lev, .slice A1 n.kids.length c1, .slice A2 n.piv.length c2, .slice A3 n.buf.length c3, .slice A4 n.prs.length c4] 29)) = w1 at *
  generalize w.heap.size = g at *
  go_loopw [7] (fun i wr => ∃ k : Nat, k ≤ n.kids.length ∧ i = .int .i64 (k : Nat) ∧ Hid ((∀ (i : Nat) (x : U), i < k → n.kids[i]? = some x → okU c x) ∧ (∀ (i j : Nat) (x y : U), i < k → j < i → n.kids[i]? = some x → n.kids[j]? = some y → y ≠ x)) ∧ Still w1 wr) (fun i _ => n.kids.length - nv i)
  case atStart => exact ⟨0, Nat.zero_le _, rfl, Lib.hid ⟨fun i p h => by omega, fun i j x y h => by omega⟩, Chg.refl _ _⟩
  case round =>
    obtain ⟨k, hk, rfl, HR, hs⟩ := hrel
    have HB1 := Lib.hid (HB.out.move hs)
    have HS1 := Lib.hid hs
    clear hs
    by_cases hlt : k < n.kids.length
    · obtain ⟨b, off, rfl, hb, hc0⟩ := HB1.out.s1.u k hlt
      have HX := Lib.hid (ge_some hlt)
      have HG := Lib.hid (show ∀ j (h : j < n.kids.length), wr.cell? ⟨b, off + j, none⟩ = some (.int .u32 (n.kids[j]).1) from fun j h => by
        obtain ⟨b', off', e, -, h'⟩ := HB1.out.s1.u j h
        simp only [Option.some.injEq, Addr.mk.injEq] at e
        obtain ⟨rfl, rfl, -⟩ := e
        exact h')
      generalize n.kids[k] = x at hc0 HX
      have hx := x.2
      obtain ⟨x0, x1⟩ := hx
      obtain ⟨-, m1, -, -, -⟩ := HB1.out.node
      have q0 := HB1.out.conf.1
      have hwr : IntKind.i64.wrap x.1 = x.1 := wrap64 x
      by_cases hz : x.1 = 0
      · have hz2 : (x.1 == 0) = true := by simp [hz]
        have HN : Hid (¬ OP) := Lib.hid (fun h => (by
          rw [← HOP.out] at h
          exact (h.kids.1 k x HX.out).1 hz))
        clear hz
        go_wp2_with fail
        go_quiet (fail)
        go_wp2
        go_ret
        exact HF.out _ HN.out (HB1.out.still.trans (Chg.drewN _ _))
      have hz2 : (x.1 == 0) = false := by simp [hz]
      by_cases hbl : x.1 < c.blocks
      case neg =>
        have hb2 : decide (c.blocks ≤ x.1) = true := by simp; omega
        have HN : Hid (¬ OP) := Lib.hid (fun h => (by
          rw [← HOP.out] at h
          exact hbl (h.kids.1 k x HX.out).2))
        clear hbl hz
        go_wp2_with fail
        go_quiet (fail)
        go_wp2
        go_ret
        exact HF.out _ HN.out (HB1.out.still.trans (Chg.drewN _ _))
      have HOK := Lib.hid (show okU c x from ⟨hz, hbl⟩)
      have hb2 : decide (c.blocks ≤ x.1) = false := by simp; omega
      clear hbl hz
      go_wp2_with fail
      go_quiet (fail)
      have HSq := Lib.hid (HS1.out.trans (Chg.drewN nq wr))
      generalize wr.drewN nq = wq at *
      clear q0 m1
      go_wp2_with fail
      clear hwr hz2 hb2
      go_loopw [8] (fun i wr => ∃ j : Nat, j ≤ k ∧ i = .int .i64 (j : Nat) ∧ Hid (∀ (i : Nat) (y : U), i < j → n.kids[i]? = some y → y ≠ x) ∧ Still w1 wr) (fun i _ => k - nv i)
      case atStart => exact ⟨0, Nat.zero_le _, rfl, Lib.hid (fun i p h => by omega), HSq.out⟩
      case round =>
        obtain ⟨j, hj, rfl, HJ, hs⟩ := hrel
        have HB2 := Lib.hid (HB.out.move hs)
        have HS2 := Lib.hid hs
        clear hs
        by_cases hlt2 : j < k
        · obtain ⟨b', off', e, -, hd0⟩ := HB2.out.s1.u j (by omega)
          simp only [Option.some.injEq, Addr.mk.injEq] at e
          obtain ⟨rfl, rfl, -⟩ := e
          obtain ⟨b', off', e, -, hd1⟩ := HB2.out.s1.u k hlt
          simp only [Option.some.injEq, Addr.mk.injEq] at e
          obtain ⟨rfl, rfl, -⟩ := e
          have hX : n.kids[k] = x := by
            have := HX.out
            rw [ge_some hlt] at this
            simpa using this
          rw [hX] at hd1
          clear hX
          have HY := Lib.hid (ge_some (show j < n.kids.length by omega))
          generalize n.kids[j] = y at hd0 HY
          obtain ⟨-, m1, -, -, -⟩ := HB2.out.node
          by_cases he : y = x
          · have he2 : (y.1 == x.1) = true := by rw [he]; simp
            have HN : Hid (¬ OP) := Lib.hid (fun h => (by
              rw [← HOP.out] at h
              exact h.kids.2 k j x y hlt2 HX.out HY.out he))
            clear he
            go_wp2_with fail
            go_quiet (fail)
            go_wp2
            go_ret
            exact HF.out _ HN.out (HB2.out.still.trans (Chg.drewN _ _))
          · have he2 := uneB he
            have HJ2 : Hid (∀ (i : Nat) (z : U), i < j + 1 → n.kids[i]? = some z → z ≠ x) := Lib.hid (fun i z h1 h2 => by
              by_cases e : i = j
              · subst e
                rw [HY.out] at h2
                simp only [Option.some.injEq] at h2
                subst h2
                exact he
              · exact HJ.out i z (by omega) h2)
            clear he
            go_wp2_with fail
            go_quiet (fail)
            go_wp2
            go_roundw
            case rel => exact ⟨j + 1, by omega, by go_num, HJ2, HS2.out.trans (Chg.drewN _ _)⟩
            case measure => simp [nv]; omega
        · have HR2 : Hid ((∀ (i : Nat) (z : U), i < k + 1 → n.kids[i]? = some z → okU c z) ∧ (∀ (i j : Nat) (z y : U), i < k + 1 → j < i → n.kids[i]? = some z → n.kids[j]? = some y → y ≠ z)) := Lib.hid ⟨fun i z h1 h2 => by
              by_cases e : i = k
              · subst e
                rw [HX.out] at h2
                simp only [Option.some.injEq] at h2
                subst h2
                exact HOK.out
              · exact HR.out.1 i z (by omega) h2, fun i i2 z y h1 h2 h3 h4 => by
              by_cases e : i = k
              · subst e
                rw [HX.out] at h3
                simp only [Option.some.injEq] at h3
                subst h3
                exact HJ.out i2 y (by omega) h4
              · exact HR.out.2 i i2 z y (by omega) h2 h3 h4⟩
          go_wp2
          go_roundw
          case rel => exact ⟨k + 1, by omega, by go_num, HR2, HS2.out⟩
          case measure => simp [nv]; omega
    · have HKP : Hid (KidsP c n.kids) := Lib.hid ⟨fun i x h => HR.out.1 i x (by
        have := (List.getElem?_eq_some_iff.1 h).1
        omega) h, fun i j x y h1 h2 h3 => HR.out.2 i j x y (by
        have := (List.getElem?_eq_some_iff.1 h2).1
        omega) h1 h2 h3⟩
      clear HR
      obtain ⟨-, m1, -, -, -⟩ := HB1.out.node
      go_wp2_with fail
      clear m1 hlt hk
      go_loopw [9] (fun i wr => ∃ k : Nat, k ≤ n.piv.length ∧ i = .int .i64 (k : Nat) ∧ Hid (∀ (i : Nat) (x : K), i < k → n.piv[i]? = some x → keyB c x = true) ∧ Still w1 wr) (fun i _ => n.piv.length - nv i)
      case atStart => exact ⟨0, Nat.zero_le _, rfl, Lib.hid (fun i p h => by omega), HS1.out⟩
      clear HS1 HB1
      case round =>
        obtain ⟨k, hk, rfl, HR, hs⟩ := hrel
        have HB1 := Lib.hid (HB.out.move hs)
        have HS1 := Lib.hid hs
        clear hs
        by_cases hlt : k < n.piv.length
        · obtain ⟨b, off, rfl, hb, hc0⟩ := HB1.out.s2.s k hlt
          have HX := Lib.hid (ge_some hlt)
          generalize n.piv[k] = x at hc0 HX
          obtain ⟨-, -, m2, -, -⟩ := HB1.out.node
          have H0 := Lib.hid (keep8b ⟨HB1.out.conf.1, HB1.out.conf.2.1, HB1.out.conf.2.2.1, HB1.out.conf.2.2.2.1, HB1.out.conf.2.2.2.2.1, HB1.out.conf.2.2.2.2.2.1, HB1.out.conf.2.2.2.2.2.2.1, HB1.out.conf.2.2.2.2.2.2.2, m2, hc0, HS1.out⟩ (Chg.drew (S := fun _ => False) wr))
          clear hc0
          cases hkb : keyB c x with
          | false =>
            have HN : Hid (¬ OP) := Lib.hid (fun h => (by
              rw [← HOP.out] at h
              have := h.keys k x HX.out
              rw [hkb] at this
              simp at this))
            have HKB := Lib.hid hkb
            clear hkb
            go_wp2_with fail
            clear m2
            refine wp_region_held_drew (S := fun w' => w'.cell? ⟨g, 0, none⟩ = some (.int .i64 c.blocks) ∧ w'.cell? ⟨g, 1, none⟩ = some (.int .i64 c.bytes) ∧ w'.cell? ⟨g, 2, none⟩ = some (.int .i64 c.frames) ∧ w'.cell? ⟨g, 3, none⟩ = some (.int .i64 c.fan) ∧ w'.cell? ⟨g, 4, none⟩ = some (.int .i64 c.buffer) ∧ w'.cell? ⟨g, 5, none⟩ = some (.int .i64 c.leaf) ∧ w'.cell? ⟨g, 6, none⟩ = some (.int .i64 c.key) ∧ w'.cell? ⟨g, 7, none⟩ = some (.int .i64 c.val) ∧ w'.cell? ⟨g + 1 + 1, 2, none⟩ = some (.slice (some ⟨b, off, none⟩) n.piv.length c2) ∧ w'.cell? ⟨b, off + k, none⟩ = some (.string x.1) ∧ Still w1 w') (by kernel_rfl) H0.out (fun hHeld => ?_)
            refine wpAnyH_take (i := 0) (oi := { dst := some 59, op := _, type := _, pos := _, after := _, guard := _ }) (v := ?_) rfl (by kernel_rfl) (by kernel_rfl) (by kernel_rfl) (fun _ _ _ h => h) (Or.inl ⟨by rfl, ?_⟩) (by assumption) ?_
            case refine_2 => intro w hSw; (try dsimp only at hSw); go_simp; all_goals (with_reducible rfl)
            try simp only [Act.put, List.setIfInBounds_toArray, List.set_cons_zero, List.set_cons_succ]
            refine wpAnyH_take (i := 1) (oi := { dst := some 60, op := _, type := _, pos := _, after := _, guard := _ }) (v := ?_) rfl (by kernel_rfl) (by kernel_rfl) (by kernel_rfl) (fun _ _ _ h => h) (Or.inl ⟨by rfl, ?_⟩) (by assumption) ?_
            case refine_2 => intro w hSw; (try dsimp only at hSw); go_simp; all_goals (with_reducible rfl)
            try simp only [Act.put, List.setIfInBounds_toArray, List.set_cons_zero, List.set_cons_succ]
            refine wpAnyH_take (i := 2) (oi := { dst := some 61, op := _, type := _, pos := _, after := _, guard := _ }) (v := ?_) rfl (by kernel_rfl) (by kernel_rfl) (by kernel_rfl) (fun _ _ _ h => h) (Or.inl ⟨by rfl, ?_⟩) (by assumption) ?_
            case refine_2 => intro w hSw; (try dsimp only at hSw); go_simp; all_goals (with_reducible rfl)
            try simp only [Act.put, List.setIfInBounds_toArray, List.set_cons_zero, List.set_cons_succ]
            refine wpAnyH_take (i := 3) (oi := { dst := some 62, op := _, type := _, pos := _, after := _, guard := _ }) (v := ?_) rfl (by kernel_rfl) (by kernel_rfl) (by kernel_rfl) (fun _ _ _ h => h) (Or.inl ⟨by rfl, ?_⟩) (by assumption) ?_
            case refine_2 => intro w hSw; (try dsimp only at hSw); go_simp; all_goals (with_reducible rfl)
            try simp only [Act.put, List.setIfInBounds_toArray, List.set_cons_zero, List.set_cons_succ]
            refine wpAnyH_take (i := 4) (oi := { dst := some 63, op := _, type := _, pos := _, after := _, guard := _ }) (v := ?_) rfl (by kernel_rfl) (by kernel_rfl) (by kernel_rfl) (fun _ _ _ h => h) (Or.inl ⟨by rfl, ?_⟩) (by assumption) ?_
            case refine_2 => intro w hSw; (try dsimp only at hSw); go_simp; all_goals (with_reducible rfl)
            try simp only [Act.put, List.setIfInBounds_toArray, List.set_cons_zero, List.set_cons_succ]
            refine wpAnyH_take (i := 5) (oi := { dst := some 64, op := _, type := _, pos := _, after := _, guard := _ }) (v := ?_) rfl (by kernel_rfl) (by kernel_rfl) (by kernel_rfl) (fun _ _ _ h => h) (Or.inl ⟨by rfl, ?_⟩) (by assumption) ?_
            case refine_2 => intro w hSw; (try dsimp only at hSw); go_simp; all_goals (with_reducible rfl)
            try simp only [Act.put, List.setIfInBounds_toArray, List.set_cons_zero, List.set_cons_succ]
            refine wpAnyH_ready (rs := [6]) (by kernel_rfl) (by simp) ?_
            refine AllReadyH.cons (o := _) rfl (fun K hK => ?_) AllReadyH.nil
            go_simp
            go_at_call 53; refine (HK x _).mono ?_; rintro e w1 ⟨rfl, hs⟩; rw [HKB.out]
            go_wp2_with fail
            refine hK.out _ _ (keep8b hHeld hs) (fun hHeld => ?_)
            clear hs
            try simp only [Act.put, List.setIfInBounds_toArray, List.set_cons_zero, List.set_cons_succ]
            refine wpAnyH_take (i := 7) (oi := { dst := some 66, op := _, type := _, pos := _, after := _, guard := _ }) (v := ?_) rfl (by kernel_rfl) (by kernel_rfl) (by kernel_rfl) (fun _ _ _ h => h) (Or.inl ⟨by rfl, ?_⟩) (by assumption) ?_
            case refine_2 => intro w hSw; (try dsimp only at hSw); go_simp; all_goals (with_reducible rfl)
            try simp only [Act.put, List.setIfInBounds_toArray, List.set_cons_zero, List.set_cons_succ]
            refine wpAnyH_done (by kernel_rfl) ?_ _
            go_wp2
            go_ret
            exact HF.out _ HN.out (HB.out.still.trans hHeld.2.2.2.2.2.2.2.2.2.2)
          | true =>
            have HKB := Lib.hid hkb
            have HR2 : Hid (∀ (i : Nat) (z : K), i < k + 1 → n.piv[i]? = some z → keyB c z = true) := Lib.hid (fun i z h1 h2 => by
              by_cases e : i = k
              · subst e
                rw [HX.out] at h2
                simp only [Option.some.injEq] at h2
                subst h2
                exact hkb
              · exact HR.out i z (by omega) h2)
            clear hkb
            go_wp2_with fail
            clear m2
            refine wp_region_held_drew (S := fun w' => w'.cell? ⟨g, 0, none⟩ = some (.int .i64 c.blocks) ∧ w'.cell? ⟨g, 1, none⟩ = some (.int .i64 c.bytes) ∧ w'.cell? ⟨g, 2, none⟩ = some (.int .i64 c.frames) ∧ w'.cell? ⟨g, 3, none⟩ = some (.int .i64 c.fan) ∧ w'.cell? ⟨g, 4, none⟩ = some (.int .i64 c.buffer) ∧ w'.cell? ⟨g, 5, none⟩ = some (.int .i64 c.leaf) ∧ w'.cell? ⟨g, 6, none⟩ = some (.int .i64 c.key) ∧ w'.cell? ⟨g, 7, none⟩ = some (.int .i64 c.val) ∧ w'.cell? ⟨g + 1 + 1, 2, none⟩ = some (.slice (some ⟨b, off, none⟩) n.piv.length c2) ∧ w'.cell? ⟨b, off + k, none⟩ = some (.string x.1) ∧ Still w1 w') (by kernel_rfl) H0.out (fun hHeld => ?_)
            refine wpAnyH_take (i := 0) (oi := { dst := some 59, op := _, type := _, pos := _, after := _, guard := _ }) (v := ?_) rfl (by kernel_rfl) (by kernel_rfl) (by kernel_rfl) (fun _ _ _ h => h) (Or.inl ⟨by rfl, ?_⟩) (by assumption) ?_
            case refine_2 => intro w hSw; (try dsimp only at hSw); go_simp; all_goals (with_reducible rfl)
            try simp only [Act.put, List.setIfInBounds_toArray, List.set_cons_zero, List.set_cons_succ]
            refine wpAnyH_take (i := 1) (oi := { dst := some 60, op := _, type := _, pos := _, after := _, guard := _ }) (v := ?_) rfl (by kernel_rfl) (by kernel_rfl) (by kernel_rfl) (fun _ _ _ h => h) (Or.inl ⟨by rfl, ?_⟩) (by assumption) ?_
            case refine_2 => intro w hSw; (try dsimp only at hSw); go_simp; all_goals (with_reducible rfl)
            try simp only [Act.put, List.setIfInBounds_toArray, List.set_cons_zero, List.set_cons_succ]
            refine wpAnyH_take (i := 2) (oi := { dst := some 61, op := _, type := _, pos := _, after := _, guard := _ }) (v := ?_) rfl (by kernel_rfl) (by kernel_rfl) (by kernel_rfl) (fun _ _ _ h => h) (Or.inl ⟨by rfl, ?_⟩) (by assumption) ?_
            case refine_2 => intro w hSw; (try dsimp only at hSw); go_simp; all_goals (with_reducible rfl)
            try simp only [Act.put, List.setIfInBounds_toArray, List.set_cons_zero, List.set_cons_succ]
            refine wpAnyH_take (i := 3) (oi := { dst := some 62, op := _, type := _, pos := _, after := _, guard := _ }) (v := ?_) rfl (by kernel_rfl) (by kernel_rfl) (by kernel_rfl) (fun _ _ _ h => h) (Or.inl ⟨by rfl, ?_⟩) (by assumption) ?_
            case refine_2 => intro w hSw; (try dsimp only at hSw); go_simp; all_goals (with_reducible rfl)
            try simp only [Act.put, List.setIfInBounds_toArray, List.set_cons_zero, List.set_cons_succ]
            refine wpAnyH_take (i := 4) (oi := { dst := some 63, op := _, type := _, pos := _, after := _, guard := _ }) (v := ?_) rfl (by kernel_rfl) (by kernel_rfl) (by kernel_rfl) (fun _ _ _ h => h) (Or.inl ⟨by rfl, ?_⟩) (by assumption) ?_
            case refine_2 => intro w hSw; (try dsimp only at hSw); go_simp; all_goals (with_reducible rfl)
            try simp only [Act.put, List.setIfInBounds_toArray, List.set_cons_zero, List.set_cons_succ]
            refine wpAnyH_take (i := 5) (oi := { dst := some 64, op := _, type := _, pos := _, after := _, guard := _ }) (v := ?_) rfl (by kernel_rfl) (by kernel_rfl) (by kernel_rfl) (fun _ _ _ h => h) (Or.inl ⟨by rfl, ?_⟩) (by assumption) ?_
            case refine_2 => intro w hSw; (try dsimp only at hSw); go_simp; all_goals (with_reducible rfl)
            try simp only [Act.put, List.setIfInBounds_toArray, List.set_cons_zero, List.set_cons_succ]
            refine wpAnyH_ready (rs := [6]) (by kernel_rfl) (by simp) ?_
            refine AllReadyH.cons (o := _) rfl (fun K hK => ?_) AllReadyH.nil
            go_simp
            go_at_call 53; refine (HK x _).mono ?_; rintro e w1 ⟨rfl, hs⟩; rw [HKB.out]
            go_wp2_with fail
            refine hK.out _ _ (keep8b hHeld hs) (fun hHeld => ?_)
            clear hs
            try simp only [Act.put, List.setIfInBounds_toArray, List.set_cons_zero, List.set_cons_succ]
            refine wpAnyH_take (i := 7) (oi := { dst := some 66, op := _, type := _, pos := _, after := _, guard := _ }) (v := ?_) rfl (by kernel_rfl) (by kernel_rfl) (by kernel_rfl) (fun _ _ _ h => h) (Or.inl ⟨by rfl, ?_⟩) (by assumption) ?_
            case refine_2 => intro w hSw; (try dsimp only at hSw); go_simp; all_goals (with_reducible rfl)
            try simp only [Act.put, List.setIfInBounds_toArray, List.set_cons_zero, List.set_cons_succ]
            refine wpAnyH_done (by kernel_rfl) ?_ _
            go_wp2
            go_roundw
            case rel => exact ⟨k + 1, by omega, by go_num, HR2, hHeld.2.2.2.2.2.2.2.2.2.2⟩
            case measure => simp [nv]; omega
        · have HKE : Hid (∀ (i : Nat) (x : K), n.piv[i]? = some x → keyB c x = true) := Lib.hid (fun i x h => HR.out i x (by
            have := (List.getElem?_eq_some_iff.1 h).1
            omega) h)
          clear HR
          obtain ⟨-, -, m2, -, -⟩ := HB1.out.node
          go_wp2_with fail
          clear m2 hlt hk
          go_loopw [10] (fun i wr => ∃ k : Nat, k ≤ n.buf.length ∧ i = .int .i64 (k : Nat) ∧ Hid (∀ (i : Nat) (x : Msg), i < k → n.buf[i]? = some x → okMsg c s x = true) ∧ Still w1 wr) (fun i _ => n.buf.length - nv i)
          case atStart => exact ⟨0, Nat.zero_le _, rfl, Lib.hid (fun i p h => by omega), HS1.out⟩
          clear HS1 HB1
          case round =>
            obtain ⟨k, hk, rfl, HR, hs⟩ := hrel
            have HB1 := Lib.hid (HB.out.move hs)
            have HS1 := Lib.hid hs
            clear hs
            by_cases hlt : k < n.buf.length
            · obtain ⟨b, off, rfl, hb, hc0, hc1, hc2⟩ := HB1.out.s3.msg k hlt
              have HX := Lib.hid (ge_some hlt)
              generalize n.buf[k] = x at hc0 hc1 hc2 HX
              have HBAD : Hid (okMsg c s x = false → ¬ OP) := Lib.hid (fun hf h => by
                rw [← HOP.out] at h
                have := h.msgs k x HX.out
                rw [hf] at this
                simp at this)
              have HGOOD : Hid (okMsg c s x = true → ∀ (i : Nat) (z : Msg), i < k + 1 → n.buf[i]? = some z → okMsg c s z = true) := Lib.hid (fun hok i z h1 h2 => by
                by_cases e : i = k
                · subst e
                  rw [HX.out] at h2
                  simp only [Option.some.injEq] at h2
                  subst h2
                  exact hok
                · exact HR.out i z (by omega) h2)
              clear HR
              obtain ⟨-, -, -, m3, -⟩ := HB1.out.node
              have q0 := fun o => (HB1.out.move (Chg.alloc wr o)).conf.1
              have q1 := fun o => (HB1.out.move (Chg.alloc wr o)).conf.2.1
              have q2 := fun o => (HB1.out.move (Chg.alloc wr o)).conf.2.2.1
              have q3 := fun o => (HB1.out.move (Chg.alloc wr o)).conf.2.2.2.1
              have q4 := fun o => (HB1.out.move (Chg.alloc wr o)).conf.2.2.2.2.1
              have q5 := fun o => (HB1.out.move (Chg.alloc wr o)).conf.2.2.2.2.2.1
              have q6 := fun o => (HB1.out.move (Chg.alloc wr o)).conf.2.2.2.2.2.2.1
              have q7 := fun o => (HB1.out.move (Chg.alloc wr o)).conf.2.2.2.2.2.2.2
              go_wp2_with fail
              refine (HK x.k _).mono ?_
              rintro e w2 ⟨rfl, hs⟩
              have l0 := hs.cell (heap_cell (j := 0) (heap_alloc_new wr (.cells #[.string x.k.1, .bool x.d, .string x.v.1] 45)) rfl) id
              have l1 := hs.cell (heap_cell (j := 1) (heap_alloc_new wr (.cells #[.string x.k.1, .bool x.d, .string x.v.1] 45)) rfl) id
              have l2 := hs.cell (heap_cell (j := 2) (heap_alloc_new wr (.cells #[.string x.k.1, .bool x.d, .string x.v.1] 45)) rfl) id
              have HB2 := Lib.hid (HB1.out.move ((Chg.alloc wr _).trans hs))
              have HS2 := Lib.hid ((HS1.out.allocs _).trans hs)
              clear q0 q1 q2 q3 q4 q5 q6 q7 hs m3 hc0 hc1 hc2
              cases hkb : keyB c x.k with
              | false =>
                have HN : Hid (¬ OP) := Lib.hid (HBAD.out (by unfold okMsg; rw [hkb]; rfl))
                clear hkb
                go_wp2
                go_ret
                exact HF.out _ HN.out HB2.out.still
              | true =>
                have HKB := Lib.hid hkb
                clear hkb
                obtain ⟨p0, p1, p2⟩ := HB2.out.span
                go_wp2_with fail
                refine (HI x.k _).mono ?_
                rintro e w3 ⟨rfl, hs⟩
                have k0' := hs.cell l0 id
                have k1' := hs.cell l1 id
                have k2' := hs.cell l2 id
                have HB3 := Lib.hid (HB2.out.move hs)
                have HWS := Lib.hid (HS2.out.trans hs)
                clear l0 l1 l2 p0 p1 p2 hs
                cases hib : inSp s x.k with
                | false =>
                  have HN : Hid (¬ OP) := Lib.hid (HBAD.out (by unfold okMsg; rw [hib]; simp))
                  clear hib
                  go_wp2
                  go_ret
                  exact HF.out _ HN.out HB3.out.still
                | true =>
                  have HIB := Lib.hid hib
                  clear hib
                  have hq7 := HB3.out.conf.2.2.2.2.2.2.2
                  have hxv := x.v.2
                  by_cases hv : (x.v.1.size : Int) ≤ c.val
                  case neg =>
                    have HN : Hid (¬ OP) := Lib.hid (HBAD.out (by unfold okMsg valB; rw [decide_eq_false hv]; simp))
                    go_wp2
                    go_ret
                    exact HF.out _ HN.out HB3.out.still
                  have HVB : Hid (valB c x.v = true) := Lib.hid (by unfold valB; exact decide_eq_true hv)
                  cases hd : x.d with
                  | false =>
                    have HOK : Hid (okMsg c s x = true) := Lib.hid (by unfold okMsg; rw [HKB.out, HIB.out, HVB.out, hd]; rfl)
                    rw [hd] at k1'
                    clear hd
                    go_wp2
                    go_roundw
                    case rel => exact ⟨k + 1, by omega, by go_num, Lib.hid (HGOOD.out HOK.out), HWS.out⟩
                    case measure => simp [nv]; omega
                  | true =>
                    rw [hd] at k1'
                    by_cases hv0 : x.v = k0
                    · have HOK : Hid (okMsg c s x = true) := Lib.hid (by unfold okMsg; rw [HKB.out, HIB.out, HVB.out, decide_eq_true hv0]; simp)
                      have hv1 : (x.v.1.toList != (⟨#[]⟩ : ByteArray).toList) = false := by rw [hv0]; simp [k0]
                      have hv2 : x.v.1.toList = (⟨#[]⟩ : ByteArray).toList := by rw [hv0]; rfl
                      have hv3 : x.v.1.toList.isEmpty = true := by rw [hv2]; simp
                      clear hd hv0
                      go_wp2
                      go_roundw
                      case rel => exact ⟨k + 1, by omega, by go_num, Lib.hid (HGOOD.out HOK.out), HWS.out⟩
                      case measure => simp [nv]; omega
                    · have HN : Hid (¬ OP) := Lib.hid (HBAD.out (by unfold okMsg; rw [hd, decide_eq_false hv0]; simp))
                      have hv2 : ¬ x.v.1.toList = (⟨#[]⟩ : ByteArray).toList := kne (b := k0) hv0
                      have hv1 : (x.v.1.toList != (⟨#[]⟩ : ByteArray).toList) = true := by simp only [bne_iff_ne, ne_eq]; exact hv2
                      have hv3 : x.v.1.toList.isEmpty = false := by
                        cases e : x.v.1.toList with
                        | nil => exact absurd (e.trans (by simp)) hv2
                        | cons _ _ => rfl
                      clear hd hv0
                      go_wp2
                      go_ret
                      exact HF.out _ HN.out HB3.out.still
            · have HME : Hid (∀ (i : Nat) (x : Msg), n.buf[i]? = some x → okMsg c s x = true) := Lib.hid (fun i x h => HR.out i x (by
                have := (List.getElem?_eq_some_iff.1 h).1
                omega) h)
              clear HR
              obtain ⟨m0, m1, m2, m3, m4⟩ := HB1.out.node
              have q3 := HB1.out.conf.2.2.2.1
              have q4 := HB1.out.conf.2.2.2.2.1
              by_cases g0 : n.lev ≤ 40
              case neg =>
                have HN : Hid (¬ OP) := Lib.hid (fun h => (by rw [← HOP.out] at h; exact g0 h.lev))
                go_wp2
                go_ret
                exact HF.out _ HN.out HB1.out.still
              by_cases g1 : n.prs.length = 0
              case neg =>
                have HN : Hid (¬ OP) := Lib.hid (fun h => (by rw [← HOP.out] at h; exact g1 h.prs))
                go_wp2
                go_ret
                exact HF.out _ HN.out HB1.out.still
              by_cases g2 : 1 ≤ n.kids.length
              case neg =>
                have HN : Hid (¬ OP) := Lib.hid (fun h => (by rw [← HOP.out] at h; exact g2 h.one))
                go_wp2
                go_ret
                exact HF.out _ HN.out HB1.out.still
              by_cases g3 : (n.kids.length : Int) ≤ c.fan
              case neg =>
                have HN : Hid (¬ OP) := Lib.hid (fun h => (by rw [← HOP.out] at h; exact g3 h.fan))
                go_wp2
                go_ret
                exact HF.out _ HN.out HB1.out.still
              by_cases g4 : n.piv.length + 1 = n.kids.length
              case neg =>
                have HN : Hid (¬ OP) := Lib.hid (fun h => (by rw [← HOP.out] at h; exact g4 h.pivs))
                have g5 : (((n.piv.length : Nat) : Int) + 1 == ((n.kids.length : Nat) : Int)) = false := beq_eq_false_iff_ne.2 (by omega)
                have g6 : (((n.piv.length : Nat) : Int) + 1 != ((n.kids.length : Nat) : Int)) = true := by simp only [bne_iff_ne, ne_eq]; omega
                have g7 : ¬ ((n.piv.length : Nat) : Int) + 1 = ((n.kids.length : Nat) : Int) := by omega
                go_wp2
                go_ret
                exact HF.out _ HN.out HB1.out.still
              have g5 : (((n.piv.length : Nat) : Int) + 1 == ((n.kids.length : Nat) : Int)) = true := beq_iff_eq.2 (by omega)
              have g6 : (((n.piv.length : Nat) : Int) + 1 != ((n.kids.length : Nat) : Int)) = false := by rw [bne, g5]; rfl
              have g7 : ((n.piv.length : Nat) : Int) + 1 = ((n.kids.length : Nat) : Int) := by omega
              obtain ⟨p0, p1, p2⟩ := HB1.out.span
              have HALL : Hid (PivP s n.piv → (n.buf.length : Int) ≤ c.buffer → Rises Msg.k n.buf → OP) := Lib.hid (fun e1 e2 e3 => by
                rw [← HOP.out]
                exact ⟨HKP.out, HKE.out, HME.out, g0, g1, g2, g3, g4, e1, e2, e3⟩)
              go_wp2_with fail
              refine (HRP.out _ _ _ HB1.out.s2).mono ?_
              rintro e w2 ⟨r, rfl, hr, hs⟩
              have HB2 := Lib.hid (HB1.out.move hs)
              clear m0 m1 m2 m3 m4 q3 q4 p0 p1 p2 hs g5 g6 g7
              obtain ⟨m0, m1, m2, m3, m4⟩ := HB2.out.node
              have q4 := HB2.out.conf.2.2.2.2.1
              cases r with
              | false =>
                have HN : Hid (¬ OP) := Lib.hid (fun h => (by
                  rw [← HOP.out] at h
                  have := hr.out.2 h.piv
                  simp at this))
                go_wp2
                go_ret
                exact HF.out _ HN.out HB2.out.still
              | true =>
                by_cases g6 : (n.buf.length : Int) ≤ c.buffer
                case neg =>
                  have HN : Hid (¬ OP) := Lib.hid (fun h => (by rw [← HOP.out] at h; exact g6 h.room))
                  go_wp2
                  go_ret
                  exact HF.out _ HN.out HB2.out.still
                go_wp2_with fail
                refine (right10 HB2.out.s3).mono ?_
                rintro e w3 ⟨r2, rfl, hr2, hs⟩
                have HS := Lib.hid (HB2.out.still.trans hs)
                clear m0 m1 m2 m3 m4 q4 hs
                cases r2 with
                | false =>
                  have HN : Hid (¬ OP) := Lib.hid (fun h => (by
                    rw [← HOP.out] at h
                    have := hr2.out.2 h.rise
                    simp at this))
                  go_wp2
                  go_ret
                  exact HF.out _ HN.out HS.out
                | true =>
                  have HN := Lib.hid (HALL.out (hr.out.1 (by trivial)) g6 (hr2.out.1 (by trivial)))
                  go_wp2
                  go_ret
                  exact HT.out _ HN.out HS.out
end Go.Proofs.Ytekoibglogoaaaa
