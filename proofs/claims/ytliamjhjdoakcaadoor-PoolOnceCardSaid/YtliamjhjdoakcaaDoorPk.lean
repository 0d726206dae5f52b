/- PoolOnce, by its contract. -/
import Derived.Test.YtliamjhjdoakcaaDoorPi
import Derived.Deep.CutBlock
namespace Go.Proofs.YtliamjhjdoakcaaDoor
open Go Go.RowKit Go.Shelf
set_option linter.unusedVariables false
set_option linter.unusedSimpArgs false

def OnceR (B : Nat) (w0 : World) (n q p wb mb m0 : Nat) (i : Value) (w : World) : Prop := ∃ (k : Nat) (l : List Bool) (m : List (Int × Value)), k ≤ m0 ∧ k ≤ 100 ∧ i = .int .i64 (k : Nat) ∧ Tw B w0 n w q p wb mb l l m
/-- What the switch leaves: the blocks that were given out in this round, the map not told of them yet. -/
def MidR (B : Nat) (w0 : World) (n q p wb mb : Nat) (v : Value) (w : World) : Prop :=
  ∃ (l : List Bool) (m : List (Int × Value)) (gs : List Nat), Rd32 w v gs ∧ (∀ k, v.ownBlock = some k → k ≠ mb) ∧ gs.Nodup ∧ (∀ x ∈ gs, x < n ∧ l.getD x false = false) ∧ gs.length ≤ n ∧ Tw B w0 n w q p wb mb (Bt.setAll l gs) l m
def OutR (B : Nat) (w0 : World) (n q p wb mb : Nat) (l : List Bool) (gs : List Nat) (v : Value) (i : Value) (w : World) : Prop :=
  ∃ (k : Nat) (m : List (Int × Value)), k ≤ gs.length ∧ i = .int .i64 (k : Nat) ∧ Rd32 w v gs ∧ Tw B w0 n w q p wb mb (Bt.setAll l gs) (Bt.setAll l (gs.take k)) m
theorem give_ok {l : List Bool} {x : Int} (h0 : 0 ≤ x) (h : giveE l x = 0) : ∃ i : Nat, x = i ∧ i < l.length ∧ l.getD i false = true ∧ giveL l x = l.set i false := by
  obtain ⟨i, rfl⟩ := Int.eq_ofNat_of_zero_le h0
  unfold giveE clearE at h
  unfold giveL clearL
  split at h
  · omega
  · rename_i h1
    split at h
    · omega
    · rename_i h2
      rw [if_neg h1, if_neg h2]
      split at h
      · rename_i h3
        simp only [Int.toNat_natCast] at h3 ⊢
        exact ⟨i, rfl, by omega, h3, rfl⟩
      · omega
theorem give_no {l : List Bool} {x : Int} (h0 : 0 ≤ x) (h : giveE l x ≠ 0) : giveL l x = l := by
  obtain ⟨i, rfl⟩ := Int.eq_ofNat_of_zero_le h0
  unfold giveE clearE at h
  unfold giveL clearL
  split at h
  · rename_i h1; rw [if_pos h1]
  · rename_i h1
    rw [if_neg h1]
    split at h
    · rename_i h2; rw [if_pos h2]
    · rename_i h2
      rw [if_neg h2]
      split at h
      · exact absurd rfl h
      · rename_i h3
        simp only [Int.toNat_natCast] at h3 ⊢
        apply List.ext_getElem?
        intro j
        rw [List.getElem?_set]
        split
        · rename_i e
          subst e
          have hlt : i < l.length := by omega
          rw [if_pos hlt]
          simp only [List.getD_eq_getElem?_getD, List.getElem?_eq_getElem hlt, Option.getD_some, Bool.not_eq_true] at h3
          rw [List.getElem?_eq_getElem hlt, h3]
        · rfl
theorem giveL_len (l : List Bool) (i : Int) : (giveL l i).length = l.length := by unfold giveL clearL; split; rfl; split <;> simp
theorem nodup_getD {gs : List Nat} (h : gs.Nodup) (k : Nat) (hk : k < gs.length) : gs.getD k 0 ∉ gs.take k := by
  intro hm
  rw [List.mem_take_iff_getElem] at hm
  obtain ⟨j, hj, e⟩ := hm
  simp only [List.getD_eq_getElem?_getD, List.getElem?_eq_getElem hk, Option.getD_some] at e
  have := (List.getElem_inj h).1 e
  omega
theorem take_next (gs : List Nat) (k : Nat) (hk : k < gs.length) : gs.take (k + 1) = gs.take k ++ [gs.getD k 0] := by
  rw [List.take_succ_eq_append_getElem hk]; simp [List.getD_eq_getElem?_getD, List.getElem?_eq_getElem hk]
theorem mem_getD {gs : List Nat} (k : Nat) (hk : k < gs.length) : gs.getD k 0 ∈ gs := by
  simp [List.getD_eq_getElem?_getD, List.getElem?_eq_getElem hk]

set_option maxHeartbeats 4000000 in
set_option maxRecDepth 100000 in
theorem once_loop (w : World) (hT : TabAt 0 Lib.deBruijn64tab w) (c : Int) (hc0 : 0 ≤ c) (hc1 : c ≤ 255) (A : Option Addr) (len cap0 : Nat) (hlen : len ≤ 9223372036854775807) (kd ka ki : Nat → Int) (hki : ∀ k, 0 ≤ ki k ∧ ki k ≤ 4294967295) (hA : Acts3 w w.heap.size A len kd ka ki) :
    Calls Tryd.prog 5 #[.int .u8 c, .slice A len cap0] w (TrueP w) := by
  have HT := Lib.hid hT
  have HA := Lib.hid hA
  have HK := Lib.hid hki
  have hpos := tab_lt hT
  clear hT hA hki
  obtain ⟨n, hn⟩ : ∃ n : Nat, 5 + c % 60 = (n : Int) := ⟨(5 + c % 60).toNat, by omega⟩
  have h5 : 5 ≤ n := by omega
  have h64 : n ≤ 64 := by omega
  have hlt256 : c < 256 := by omega
  have hm60 : 0 ≤ c % 60 ∧ c % 60 < 60 := by omega
  have HN := Lib.hid hn
  clear hn
  have hmm := @run_makeMap Tryd.prog
  go_enter Tryd.func5, Tryd.ntmps5
  go_wp2_with fail
  rw [HN.out]
  refine (newp_ok n w h5 (by omega)).mono ?_
  rintro e w1 ⟨q, p, wb, rfl, hr, hq, hp, hwb, hB⟩
  obtain ⟨w2, hins, hm2, hc2⟩ := run_update_imap (P := Tryd.prog) Tryd.underlying53 Tryd.underlying52 (IMap.new w1 .u32) 0 (.bool true)
  have HP : Hid (Tw w.heap.size w n w2 q p wb w1.heap.size (l0 n) (l0 n) [(0, .bool true)]) := by
    have hlt := hr.lt
    have hs := hB.size
    have hce := (Chg.alloc (S := fun i => i = w1.heap.size) w1 (.map #[] 0)).trans hc2
    refine ⟨⟨hr.chg hce (by show ¬ (q = w1.heap.size); omega) (by show ¬ (p = w1.heap.size); omega) (by show ¬ (wb = w1.heap.size); omega), hq, hp, hwb, Nat.le_trans hs hce.size, hB.trans (hce.below hs (fun i hi => by rw [hi]; exact hs))⟩, hm2, by simp [l0], by simp [l0], by omega, by omega, by omega, hs, ?_⟩
    have hl0 : (List.replicate n false).length = n := by simp
    have h0 : AgreeM (List.replicate n false) [] := ⟨fun x hx => by
      have : hasB (List.replicate n false) x = false := by
        obtain ⟨j, rfl⟩ := Int.eq_ofNat_of_zero_le hx
        unfold hasB
        rw [Int.toNat_natCast, Bt.getD_replicate]; simp
      rw [this]; rfl, by simp [List.count_replicate]⟩
    exact h0.put 0 (by omega) (by rw [Bt.getD_replicate])
  clear hr hq hp hwb hB hm2 hc2
  go_wp2_with fail
  go_loopw [9] (fun i wr => OnceR w.heap.size w n q p wb w1.heap.size len i wr) (fun i _ => len - (intOf i).toNat)
  case atStart => exact ⟨0, _, _, Nat.zero_le _, by omega, rfl, HP.out⟩
  case round =>
    clear HP
    obtain ⟨k, l, m, hk, hk6, rfl, hP⟩ := hrel
    have HP := Lib.hid hP
    clear hP
    by_cases hlt : k < len ∧ k < 100
    · obtain ⟨hlt, h60⟩ := hlt
      obtain ⟨b, off, rfl, hkd, hka, hkx⟩ := HA.out.at_ HP.out.up.below k hlt
      have hbB : b ≠ p ∧ b ≠ wb ∧ b ≠ w1.heap.size := by
        obtain ⟨b', off', hA', hlt', _⟩ := HA.out
        have e := hA' (by omega)
        simp only [Option.some.injEq, Addr.mk.injEq] at e
        have h1 := HP.out.up.bp; have h2 := HP.out.up.bw; have h3 := HP.out.bm
        omega
      obtain ⟨hx0, hx1⟩ := HK.out k
      generalize kd k = z at hkd
      generalize ka k = y at hka
      generalize ki k = x at hkx hx0 hx1
      go_upto_block 2 with fail
      go_cut [10] from 33 to 142 (fun v wx => MidR w.heap.size w n q p wb w1.heap.size v wx)
      case first =>
        by_cases hz0 : z = 0
        · subst hz0
          as_aux_lemma =>
            rcases Nat.eq_zero_or_pos (l.count false) with hcz | hcz
            · have HZ := Lib.hid hcz
              clear hcz
              go_wp2_with fail
              refine (take_full HP.out.up.pool HZ.out).mono ?_
              rintro e w4 ⟨rfl, hs4⟩
              have HP4 := Lib.hid (HP.out.still hs4)
              clear hs4 HP
              go_wp2
              go_meet
              exact ⟨l, m, [], Own32.nil w4 0 |>.rd, by simp [Value.ownBlock], List.nodup_nil, fun x hx => absurd hx List.not_mem_nil, Nat.zero_le _, HP4.out⟩
            · obtain ⟨i, hi⟩ : ∃ i, Bt.first l 0 false = some i := by
                cases hf : Bt.first l 0 false with
                | none => have := Bt.fc_none hf; rw [Bt.fc_zero] at this; omega
                | some i => exact ⟨i, rfl⟩
              have HZ := Lib.hid hi
              have hil := (Bt.first_some.1 hi).1
              have hin : i < 65536 := by have := HP.out.lenp; omega
              clear hcz hi hil
              go_wp2_with fail
              refine (take_ok HP.out.up.pool (HP.out.up.tab HT.out hpos) (HP.out.up.ne hpos) i HZ.out).mono ?_
              rintro e w4 ⟨rfl, hr4, hc4⟩
              have HP4 := Lib.hid (HP.out.pool hr4 hc4 (by simp; exact HP.out.lenp))
              clear hr4 hc4
              go_wp2_with (at_builtin; refine append32 rfl _ _ i (.slice none 0 0) rfl w4.heap.size [] (by go_simp) (by go_simp) (Own32.nil w4 _) (Nat.le_refl _) (by decide) ?_; intro v5 w5 ho5 hc5)
              have HP5 := Lib.hid (HP4.out.still (hc5.mono (fun k h => by simp [Value.ownBlock] at h)))
              have HR5 := Lib.hid (show Rd32 w5 v5 [i] ∧ ∀ k, v5.ownBlock = some k → k ≠ w1.heap.size from ⟨ho5.rd, fun k hk => by have h1 := ho5.block k hk; have h2 := HP4.out.map.lt; omega⟩)
              clear ho5 hc5 HP4
              go_wp2
              go_meet
              have hs := Bt.first_some.1 HZ.out
              exact ⟨l, m, [i], HR5.out.1, HR5.out.2, by simp, fun x hx => by simp only [List.mem_singleton] at hx; subst hx; exact ⟨by have := HP.out.lenp; omega, hs.2.2.1⟩, by simp; omega, HP5.out⟩
        by_cases hz1 : z = 1
        · subst hz1
          as_aux_lemma =>
            rcases Nat.eq_zero_or_pos (l.count false) with hcz | hcz
            · have HZ := Lib.hid hcz
              clear hcz
              go_wp2_with fail
              refine (take_full HP.out.up.pool HZ.out).mono ?_
              rintro e w4 ⟨rfl, hs4⟩
              have HP4 := Lib.hid (HP.out.still hs4)
              clear hs4 HP
              go_wp2
              go_meet
              exact ⟨l, m, [], Own32.nil w4 0 |>.rd, by simp [Value.ownBlock], List.nodup_nil, fun x hx => absurd hx List.not_mem_nil, Nat.zero_le _, HP4.out⟩
            · obtain ⟨i, hi⟩ : ∃ i, Bt.first l 0 false = some i := by
                cases hf : Bt.first l 0 false with
                | none => have := Bt.fc_none hf; rw [Bt.fc_zero] at this; omega
                | some i => exact ⟨i, rfl⟩
              have HZ := Lib.hid hi
              have hil := (Bt.first_some.1 hi).1
              have hin : i < 65536 := by have := HP.out.lenp; omega
              clear hcz hi hil
              go_wp2_with fail
              refine (take_ok HP.out.up.pool (HP.out.up.tab HT.out hpos) (HP.out.up.ne hpos) i HZ.out).mono ?_
              rintro e w4 ⟨rfl, hr4, hc4⟩
              have HP4 := Lib.hid (HP.out.pool hr4 hc4 (by simp; exact HP.out.lenp))
              clear hr4 hc4
              go_wp2_with (at_builtin; refine append32 rfl _ _ i (.slice none 0 0) rfl w4.heap.size [] (by go_simp) (by go_simp) (Own32.nil w4 _) (Nat.le_refl _) (by decide) ?_; intro v5 w5 ho5 hc5)
              have HP5 := Lib.hid (HP4.out.still (hc5.mono (fun k h => by simp [Value.ownBlock] at h)))
              have HR5 := Lib.hid (show Rd32 w5 v5 [i] ∧ ∀ k, v5.ownBlock = some k → k ≠ w1.heap.size from ⟨ho5.rd, fun k hk => by have h1 := ho5.block k hk; have h2 := HP4.out.map.lt; omega⟩)
              clear ho5 hc5 HP4
              go_wp2
              go_meet
              have hs := Bt.first_some.1 HZ.out
              exact ⟨l, m, [i], HR5.out.1, HR5.out.2, by simp, fun x hx => by simp only [List.mem_singleton] at hx; subst hx; exact ⟨by have := HP.out.lenp; omega, hs.2.2.1⟩, by simp; omega, HP5.out⟩
        by_cases hz3 : z = 3
        · subst hz3
          as_aux_lemma =>
            rcases Nat.eq_zero_or_pos (l.count false) with hcz | hcz
            · have HZ := Lib.hid hcz
              clear hcz
              go_wp2_with fail
              refine (take_full HP.out.up.pool HZ.out).mono ?_
              rintro e w4 ⟨rfl, hs4⟩
              have HP4 := Lib.hid (HP.out.still hs4)
              clear hs4 HP
              go_wp2
              go_meet
              exact ⟨l, m, [], Own32.nil w4 0 |>.rd, by simp [Value.ownBlock], List.nodup_nil, fun x hx => absurd hx List.not_mem_nil, Nat.zero_le _, HP4.out⟩
            · obtain ⟨i, hi⟩ : ∃ i, Bt.first l 0 false = some i := by
                cases hf : Bt.first l 0 false with
                | none => have := Bt.fc_none hf; rw [Bt.fc_zero] at this; omega
                | some i => exact ⟨i, rfl⟩
              have HZ := Lib.hid hi
              have hil := (Bt.first_some.1 hi).1
              have hin : i < 65536 := by have := HP.out.lenp; omega
              clear hcz hi hil
              go_wp2_with fail
              refine (take_ok HP.out.up.pool (HP.out.up.tab HT.out hpos) (HP.out.up.ne hpos) i HZ.out).mono ?_
              rintro e w4 ⟨rfl, hr4, hc4⟩
              have HP4 := Lib.hid (HP.out.pool hr4 hc4 (by simp; exact HP.out.lenp))
              clear hr4 hc4
              go_wp2_with (at_builtin; refine append32 rfl _ _ i (.slice none 0 0) rfl w4.heap.size [] (by go_simp) (by go_simp) (Own32.nil w4 _) (Nat.le_refl _) (by decide) ?_; intro v5 w5 ho5 hc5)
              have HP5 := Lib.hid (HP4.out.still (hc5.mono (fun k h => by simp [Value.ownBlock] at h)))
              have HR5 := Lib.hid (show Rd32 w5 v5 [i] ∧ ∀ k, v5.ownBlock = some k → k ≠ w1.heap.size from ⟨ho5.rd, fun k hk => by have h1 := ho5.block k hk; have h2 := HP4.out.map.lt; omega⟩)
              clear ho5 hc5 HP4
              go_wp2
              go_meet
              have hs := Bt.first_some.1 HZ.out
              exact ⟨l, m, [i], HR5.out.1, HR5.out.2, by simp, fun x hx => by simp only [List.mem_singleton] at hx; subst hx; exact ⟨by have := HP.out.lenp; omega, hs.2.2.1⟩, by simp; omega, HP5.out⟩
        by_cases hz2 : z = 2
        · subst hz2
          as_aux_lemma =>
            go_wp2_with fail
            refine (grab_pool HP.out.up.pool (HP.out.up.tab HT.out hpos) (HP.out.up.ne hpos) y).mono ?_
            rintro e w4 ⟨v4, rfl, ho4, hr4, hc4⟩
            have HP4 := Lib.hid (HP.out.pool hr4 hc4 (by unfold grabL; rw [Bt.setAll_len]; exact HP.out.lenp))
            have HR4 := Lib.hid (show Rd32 w4 v4 (grabG l y) ∧ ∀ k, v4.ownBlock = some k → k ≠ w1.heap.size from ⟨ho4.rd, fun k hk => by have h1 := ho4.block k hk; have h2 := HP.out.map.lt; omega⟩)
            clear ho4 hr4 hc4
            by_cases hz : grabE l y = 0
            · have HZ := Lib.hid hz
              rw [hz]
              clear hz
              go_wp2
              go_meet
              exact ⟨l, m, grabG l y, HR4.out.1, HR4.out.2, (grabG_ok l y).1, fun x hx => by have h1 := (grabG_ok l y).2 x hx; have h2 := HP.out.lenp; exact ⟨by omega, h1.2⟩, by have h1 := grabG_len l y; have h2 := HP.out.lenp; omega, HP4.out⟩
            · have hz' : (grabE l y == 0) = false := beq_eq_false_iff_ne.2 hz
              have HZ : Hid (grabL l y = l) := by
                refine Lib.hid ?_
                unfold grabE at hz
                unfold grabL grabG
                rw [if_pos (by by_cases h1 : y < 0; exact .inl h1; right; rw [if_neg h1] at hz; by_cases h2 : ((l.count false : Nat) : Int) < y; exact h2; rw [if_neg h2] at hz; exact absurd rfl hz)]
                rfl
              clear hz
              go_wp2
              go_meet
              exact ⟨l, m, [], Own32.nil w4 0 |>.rd, by simp [Value.ownBlock], List.nodup_nil, fun x hx => absurd hx List.not_mem_nil, Nat.zero_le _, by have h1 := HP4.out; rw [HZ.out] at h1; exact h1⟩
        by_cases hz4 : z = 4
        · subst hz4
          as_aux_lemma =>
            go_wp2_with fail
            refine (give_pool HP.out.up.pool x hx0 hx1).mono ?_
            rintro e w4 ⟨rfl, hr4, hc4⟩
            have hkx4 : w4.cell? ⟨b, off + k * 3 + 2, none⟩ = some (.int .u32 x) := hc4.cell hkx (by show ¬ (b = p ∨ b = wb); omega)
            have HP4 := Lib.hid (show Tw w.heap.size w n w4 q p wb w1.heap.size (giveL l x) l m from HP.out.pool hr4 hc4 (by rw [giveL_len]; exact HP.out.lenp))
            clear hr4 hc4 hkx
            by_cases hz : giveE l x = 0
            · obtain ⟨i, rfl, hil, hit, hgl⟩ := give_ok hx0 hz
              rw [hz]
              have HZ := Lib.hid (show i < l.length ∧ l.getD i false = true ∧ giveL l i = l.set i false from ⟨hil, hit, hgl⟩)
              have hlk := HP4.out.has i (by omega) true (by rw [hasB_get l i hil]; exact hit)
              obtain ⟨w5, hdel, hm5, hc5⟩ := run_delete_imap (P := Tryd.prog) (ty := 0) Tryd.underlying53 Tryd.underlying52 HP4.out.map i
              have HP5 : Hid (Tw w.heap.size w n w5 q p wb w1.heap.size (l.set i false) (l.set i false) (delM m i)) := by
                have h1 := HP4.out
                rw [hgl] at h1
                obtain ⟨es, clock, _, _, hn⟩ := h1.map
                exact h1.mapped hm5 hc5 (by simp; exact HP.out.lenp) (h1.agree.cut hn i hil hit)
              clear hz hil hit hgl hm5 hc5 HP4 HP
              go_wp2
              go_meet
              exact ⟨_, _, [], Own32.nil w5 0 |>.rd, by simp [Value.ownBlock], List.nodup_nil, fun x hx => absurd hx List.not_mem_nil, Nat.zero_le _, HP5.out⟩
            · have hz' : (giveE l x == 0) = false := beq_eq_false_iff_ne.2 hz
              have HZ := Lib.hid (give_no hx0 hz)
              clear hz
              go_wp2
              go_meet
              exact ⟨l, m, [], Own32.nil w4 0 |>.rd, by simp [Value.ownBlock], List.nodup_nil, fun x hx => absurd hx List.not_mem_nil, Nat.zero_le _, by have h1 := HP4.out; rw [HZ.out] at h1; exact h1⟩
        by_cases hz5 : z = 5
        · subst hz5
          as_aux_lemma =>
            go_wp2_with fail
            refine (give_pool HP.out.up.pool x hx0 hx1).mono ?_
            rintro e w4 ⟨rfl, hr4, hc4⟩
            have hkx4 : w4.cell? ⟨b, off + k * 3 + 2, none⟩ = some (.int .u32 x) := hc4.cell hkx (by show ¬ (b = p ∨ b = wb); omega)
            have HP4 := Lib.hid (show Tw w.heap.size w n w4 q p wb w1.heap.size (giveL l x) l m from HP.out.pool hr4 hc4 (by rw [giveL_len]; exact HP.out.lenp))
            clear hr4 hc4 hkx
            by_cases hz : giveE l x = 0
            · obtain ⟨i, rfl, hil, hit, hgl⟩ := give_ok hx0 hz
              rw [hz]
              have HZ := Lib.hid (show i < l.length ∧ l.getD i false = true ∧ giveL l i = l.set i false from ⟨hil, hit, hgl⟩)
              have hlk := HP4.out.has i (by omega) true (by rw [hasB_get l i hil]; exact hit)
              obtain ⟨w5, hdel, hm5, hc5⟩ := run_delete_imap (P := Tryd.prog) (ty := 0) Tryd.underlying53 Tryd.underlying52 HP4.out.map i
              have HP5 : Hid (Tw w.heap.size w n w5 q p wb w1.heap.size (l.set i false) (l.set i false) (delM m i)) := by
                have h1 := HP4.out
                rw [hgl] at h1
                obtain ⟨es, clock, _, _, hn⟩ := h1.map
                exact h1.mapped hm5 hc5 (by simp; exact HP.out.lenp) (h1.agree.cut hn i hil hit)
              clear hz hil hit hgl hm5 hc5 HP4 HP
              go_wp2
              go_meet
              exact ⟨_, _, [], Own32.nil w5 0 |>.rd, by simp [Value.ownBlock], List.nodup_nil, fun x hx => absurd hx List.not_mem_nil, Nat.zero_le _, HP5.out⟩
            · have hz' : (giveE l x == 0) = false := beq_eq_false_iff_ne.2 hz
              have HZ := Lib.hid (give_no hx0 hz)
              clear hz
              go_wp2
              go_meet
              exact ⟨l, m, [], Own32.nil w4 0 |>.rd, by simp [Value.ownBlock], List.nodup_nil, fun x hx => absurd hx List.not_mem_nil, Nat.zero_le _, by have h1 := HP4.out; rw [HZ.out] at h1; exact h1⟩
        have b0 : (z == 0) = false := beq_eq_false_iff_ne.2 hz0
        have b1 : (z == 1) = false := beq_eq_false_iff_ne.2 hz1
        have b2 : (z == 2) = false := beq_eq_false_iff_ne.2 hz2
        have b3 : (z == 3) = false := beq_eq_false_iff_ne.2 hz3
        have b4 : (z == 4) = false := beq_eq_false_iff_ne.2 hz4
        have b5 : (z == 5) = false := beq_eq_false_iff_ne.2 hz5
        clear hz0 hz1 hz2 hz3 hz4 hz5
        go_wp2
        go_meet
        exact ⟨l, m, [], Own32.nil wr 0 |>.rd, by simp [Value.ownBlock], List.nodup_nil, fun x hx => absurd hx List.not_mem_nil, Nat.zero_le _, HP.out⟩
      case rest =>
        clear HP hkd hka hkx
        obtain ⟨l, m, gs, hrd, hmb, hnd, hgs, hgl, hP⟩ := hcut
        obtain ⟨A1, c1, rfl, hv⟩ := hrd
        have HP := Lib.hid hP
        have HV := Lib.hid hv
        have HG := Lib.hid (show gs.Nodup ∧ (∀ x ∈ gs, x < n ∧ l.getD x false = false) ∧ (∀ g, A1 = some ⟨g, 0, none⟩ → g ≠ w1.heap.size) from ⟨hnd, hgs, fun g e => hmb g (by rw [e]; rfl)⟩)
        have hgl2 : gs.length ≤ 64 := by omega
        clear hP hnd hgs hmb hgl hv
        go_wp2_with fail
        go_loopw [15] (fun i wr => OutR w.heap.size w n q p wb w1.heap.size l gs (.slice A1 gs.length c1) i wr) (fun i _ => gs.length - (intOf i).toNat)
        case atStart => exact ⟨0, m, Nat.zero_le _, rfl, ⟨A1, c1, rfl, HV.out⟩, HP.out⟩
        case round =>
          clear HP HV
          obtain ⟨k2, m2, hk2, rfl, hrd, hP⟩ := hrel
          have HP := Lib.hid hP
          have HR := Lib.hid hrd
          clear hP hrd
          by_cases hkl : k2 < gs.length
          · obtain ⟨g, rfl, hcell⟩ : ∃ g, A1 = some ⟨g, 0, none⟩ ∧ wr.cell? ⟨g, k2, none⟩ = some (.int .u32 (gs.getD k2 0 : Nat)) := by
              obtain ⟨A2, c2, e, h⟩ := HR.out
              simp only [Value.slice.injEq] at e
              obtain ⟨rfl, _, _⟩ := e
              rcases h with rfl | ⟨g, rfl, hc⟩
              · simp at hkl
              · exact ⟨g, rfl, hc k2 hkl⟩
            obtain ⟨x2, hx2⟩ : ∃ x2, gs.getD k2 0 = x2 := ⟨_, rfl⟩
            rw [hx2] at hcell
            have HX := Lib.hid hx2
            have hxm := mem_getD k2 hkl
            rw [hx2] at hxm
            have hxn := (HG.out.2.1 x2 hxm).1
            have hfa : (Bt.setAll l (gs.take k2)).getD x2 false = false := by
              have h1 := nodup_getD HG.out.1 k2 hkl
              rw [HX.out] at h1
              rw [setAll_notin _ _ _ h1]
              exact (HG.out.2.1 x2 hxm).2
            have hll := HP.out.lenm
            have hlk := HP.out.has (x2 : Int) (by omega) false (by rw [hasB_get _ x2 (by omega)]; exact hfa)
            have HF := Lib.hid (show (Bt.setAll l (gs.take k2)).length = n ∧ (Bt.setAll l (gs.take k2)).getD x2 false = false from ⟨hll, hfa⟩)
            clear hx2 hxm hfa hll
            obtain ⟨w5, hup, hm5, hc5⟩ := run_update_imap (P := Tryd.prog) Tryd.underlying53 Tryd.underlying52 HP.out.map (x2 : Int) (.bool true)
            have HP5 : Hid (Tw w.heap.size w n w5 q p wb w1.heap.size (Bt.setAll l gs) (Bt.setAll l (gs.take (k2 + 1))) (putM m2 x2 (.bool true))) := by
              refine Lib.hid ?_
              rw [take_next gs k2 hkl, HX.out, Bt.setAll_snoc]
              exact HP.out.mapped hm5 hc5 (by simp; exact HF.out.1) (HP.out.agree.put x2 (by rw [HF.out.1]; exact hxn) HF.out.2)
            have HR5 : Hid (Rd32 w5 (.slice (some ⟨g, 0, none⟩) gs.length c1) gs) := HR.out.chg hc5 (fun k hk => by
              have := HG.out.2.2 g rfl
              simp only [Value.ownBlock, Option.some.injEq] at hk
              subst hk
              exact this)
            clear hm5 hc5 HP HR HF HX
            go_wp2
            go_roundw
            case rel => exact ⟨k2 + 1, _, by omega, by go_num, HR5.out, HP5.out⟩
            case measure => simp [intOf]; omega
          · have hke : k2 = gs.length := by omega
            have HE : Hid (Tw w.heap.size w n wr q p wb w1.heap.size (Bt.setAll l gs) (Bt.setAll l gs) m2) := by
              refine Lib.hid ?_
              have h1 := HP.out
              rw [hke, List.take_length] at h1
              exact h1
            clear HP HR hke
            generalize Bt.setAll l gs = lp at HE
            obtain ⟨cf, hcf⟩ : ∃ cf, lp.count false = cf := ⟨_, rfl⟩
            obtain ⟨ct, hct⟩ : ∃ ct, lp.count true = ct := ⟨_, rfl⟩
            have hsum : ct + cf = n := by rw [← hcf, ← hct, count_sum]; exact HE.out.lenp
            have hml : m2.length = ct := by rw [← hct]; exact HE.out.agree.2
            have HCF := Lib.hid hcf
            have HCT := Lib.hid hct
            have t1 : ((ct : Int) != (m2.length : Int)) = false := by simp only [bne_eq_false_iff_eq]; omega
            have t2 : ((cf : Int) + (ct : Int) != (n : Int)) = false := by simp only [bne_eq_false_iff_eq]; omega
            have hcn : cf ≤ 64 ∧ ct ≤ 64 ∧ m2.length ≤ 64 := by omega
            obtain ⟨hcn1, hcn2, hcn3⟩ := hcn
            clear hcf hct hsum hml
            have hlen3 := fun ty => run_len_imap (P := Tryd.prog) (ty := ty) Tryd.underlying53 HE.out.map
            go_wp2_with fail
            refine (held_pool HE.out.up.pool).mono ?_
            rintro e w9 ⟨rfl, rfl⟩
            rw [HCT.out]
            go_wp2_with fail
            refine (free_pool HE.out.up.pool).mono ?_
            rintro e w9 ⟨rfl, hs9⟩
            rw [HCF.out]
            have HE9 := Lib.hid (HE.out.still hs9)
            clear hs9 hlen3 HE
            go_wp2_with fail
            refine (held_pool HE9.out.up.pool).mono ?_
            rintro e w10 ⟨rfl, rfl⟩
            rw [HCT.out]
            go_wp2
            go_roundw
            case rel => exact ⟨k + 1, _, _, by omega, by omega, by go_num, HE9.out⟩
            case measure => simp [intOf]; omega
    · have HB := Lib.hid (show Below w.heap.size w wr ∧ w.heap.size ≤ wr.heap.size ∧ TabAt 0 Lib.deBruijn64tab wr from ⟨HP.out.up.below, HP.out.up.hB, HP.out.up.tab HT.out hpos⟩)
      clear HP
      have key : (¬ k < len) ∨ (k < len ∧ ¬ k < 100) := by omega
      clear hlt
      rcases key with key | ⟨key, key2⟩
      all_goals
        go_wp2_with (go_at_call 30; refine (awake07 _ HB.out.2.2).mono ?_; rintro e w9 ⟨rfl, hb9⟩)
        go_ret
        exact ⟨rfl, HB.out.1.trans (hb9.mono HB.out.2.1)⟩
end Go.Proofs.YtliamjhjdoakcaaDoor
