/- PoolPlays, by its contract. -/
import Derived.Test.YtliamjhjdoakcaaDoorPf
import Derived.Deep.CutBlock
namespace Go.Proofs.YtliamjhjdoakcaaDoor
open Go Go.RowKit Go.Shelf
set_option linter.unusedVariables false
set_option linter.unusedSimpArgs false

/-- The acts that came in: three cells each. -/
def Acts3 (w : World) (B : Nat) (A : Option Addr) (len : Nat) (kd ka ki : Nat → Int) : Prop :=
  ∃ b off, (0 < len → A = some ⟨b, off, none⟩) ∧ b < B ∧ ∀ k, k < len → w.cell? ⟨b, off + k * 3, none⟩ = some (.int .i64 (kd k)) ∧ w.cell? ⟨b, off + k * 3 + 1, none⟩ = some (.int .i64 (ka k)) ∧ w.cell? ⟨b, off + k * 3 + 2, none⟩ = some (.int .u32 (ki k))
theorem Acts3.at_ {w w' : World} {B : Nat} {A : Option Addr} {len : Nat} {kd ka ki : Nat → Int} (h : Acts3 w B A len kd ka ki) (hb : Below B w w') (k : Nat) (hk : k < len) :
    ∃ b off, A = some ⟨b, off, none⟩ ∧ w'.cell? ⟨b, off + k * 3, none⟩ = some (.int .i64 (kd k)) ∧ w'.cell? ⟨b, off + k * 3 + 1, none⟩ = some (.int .i64 (ka k)) ∧ w'.cell? ⟨b, off + k * 3 + 2, none⟩ = some (.int .u32 (ki k)) := by
  obtain ⟨b, off, hA, hlt, hc⟩ := h
  exact ⟨b, off, hA (by omega), (hb.cell hlt).trans (hc k hk).1, (hb.cell hlt).trans (hc k hk).2.1, (hb.cell hlt).trans (hc k hk).2.2⟩

/-- A pool beside the reference's list. -/
structure Pl (B : Nat) (w0 : World) (n : Nat) (w : World) (q p wb g cap : Nat) (l : List Bool) : Prop where
  up : PoolUp B w0 w q p wb l
  ref : IsBools w g cap l
  len : l.length = n
  gp : g ≠ p
  gw : g ≠ wb
theorem Pl.still {B : Nat} {w0 : World} {n : Nat} {w w' : World} {q p wb g cap : Nat} {l : List Bool} (h : Pl B w0 n w q p wb g cap l) (hc : Still w w') : Pl B w0 n w' q p wb g cap l :=
  ⟨h.up.still hc, h.ref.still hc, h.len, h.gp, h.gw⟩
theorem Pl.step {B : Nat} {w0 : World} {n : Nat} {w w1 w2 : World} {q p wb g cap g' cap' : Nat} {l l' : List Bool} (h : Pl B w0 n w q p wb g cap l) (hb : IsBools w1 g' cap' l') (hlen : l'.length = n) (hg : g' = g ∨ w.heap.size ≤ g')
    (hB : Below w.heap.size w w1) (hp : IsPool w2 q p wb l') (hc : Chg (fun i => i = p ∨ i = wb) w1 w2) : Pl B w0 n w2 q p wb g' cap' l' := by
  have hlt := h.up.pool.lt
  have h1 := h.gp
  have h2 := h.gw
  have e1 : g' ≠ p := by omega
  have e2 : g' ≠ wb := by omega
  exact ⟨(h.up.still (Chg.of_below hB _)).step hp hc, hb.chg hc (by show ¬ (g' = p ∨ g' = wb); omega), hlen, e1, e2⟩

theorem grabG_len (l : List Bool) (k : Int) : (grabG l k).length ≤ l.length := by
  unfold grabG
  split
  · simp
  · rw [Bt.gr_len]; have := Bt.fc_le l 0; omega
theorem count_sum (l : List Bool) : l.count true + l.count false = l.length := by
  induction l with
  | nil => rfl
  | cons x r ih => cases x <;> simp <;> omega

def PlR (B : Nat) (w0 : World) (n q p wb m : Nat) (v i : Value) (w : World) : Prop :=
  ∃ k g cap l, k ≤ m ∧ k ≤ 60 ∧ i = .int .i64 (k : Nat) ∧ v = .slice (some ⟨g, 0, none⟩) n cap ∧ Pl B w0 n w q p wb g cap l

set_option maxHeartbeats 8000000 in
set_option maxRecDepth 100000 in
theorem plays_loop (w : World) (hT : TabAt 0 Lib.deBruijn64tab w) (n : Nat) (h1 : 5 ≤ n) (h2 : n ≤ 200) (A : Option Addr) (len cap0 : Nat) (hlen : len ≤ 9223372036854775807) (kd ka ki : Nat → Int) (hki : ∀ k, 0 ≤ ki k ∧ ki k ≤ 4294967295) (hA : Acts3 w w.heap.size A len kd ka ki)
    (ask : Int) (ha0 : 0 ≤ ask) (ha1 : ask ≤ 4294967295) :
    Calls Tryd.prog 6 #[.int .i64 n, .slice A len cap0, .int .u32 ask] w (TrueP w) := by
  have HT := Lib.hid hT
  have HA := Lib.hid hA
  have HK := Lib.hid hki
  have hpos := tab_lt hT
  clear hT hA hki
  go_enter Tryd.func6, Tryd.ntmps6
  go_wp2_with fail
  refine (newp_ok n w h1 (by omega)).mono ?_
  rintro e w1 ⟨q, p, wb, rfl, hr, hq, hp, hwb, hB⟩
  have HU := Lib.hid (show PoolUp w.heap.size w w1 q p wb (l0 n) from ⟨hr, hq, hp, hwb, hB.size, hB⟩)
  clear hr hq hp hwb hB
  go_wp2_with fail
  refine (ref7_new n w1 (by omega) (by omega)).mono ?_
  rintro e w2 ⟨g, rfl, hb, hg, hB2⟩
  have HP : Hid (Pl w.heap.size w n w2 q p wb g n (l0 n)) := by
    have hlt := HU.out.pool.lt
    exact ⟨HU.out.still (Chg.of_below hB2 _), hb, by simp [l0], by omega, by omega⟩
  clear hb hg hB2 HU
  go_wp2_with fail
  go_loopw [9, 10] (fun v i wr => PlR w.heap.size w n q p wb len v i wr) (fun _ i _ => len - (intOf i).toNat)
  case atStart => exact ⟨0, g, n, _, Nat.zero_le _, by omega, rfl, rfl, HP.out⟩
  case round =>
    clear HP
    obtain ⟨k, g, cap, l, hk, hk6, rfl, rfl, hP⟩ := hrel
    have HP0 := Lib.hid hP
    clear hP
    by_cases hlt : k < len ∧ k < 60
    · obtain ⟨hlt, h60⟩ := hlt
      obtain ⟨b, off, rfl, hkd, hka, hkx⟩ := HA.out.at_ HP0.out.up.below k hlt
      obtain ⟨hx0, hx1⟩ := HK.out k
      generalize kd k = z at hkd
      generalize ka k = y at hka
      generalize ki k = x at hkx hx0 hx1
      have HP : Hid (Pl w.heap.size w n (wr.alloc (.cells #[.int .i64 z, .int .i64 y, .int .u32 x] 56)) q p wb g cap l) := HP0.out.still (Chg.alloc wr _)
      clear HP0
      go_upto_block 2 with fail
      go_cut [9, 12] from 71 to 226 (fun v o wx => o = .bool true ∧ ∃ g cap l, v = .slice (some ⟨g, 0, none⟩) n cap ∧ Pl w.heap.size w n wx q p wb g cap l)
      case first =>
        by_cases hz0 : z = 0
        · subst hz0
          as_aux_lemma =>
            rcases Nat.eq_zero_or_pos (l.count false) with hcz | hcz
            · have HZ : Hid (l.count false = 0 ∧ grabE l 1 = 11 ∧ grabG l 1 = [] ∧ grabL l 1 = l) := by
                have e2 : grabG l 1 = [] := by unfold grabG; rw [if_pos (by omega)]
                refine ⟨hcz, by unfold grabE; rw [if_neg (by omega), if_pos (by omega)], e2, ?_⟩
                unfold grabL; rw [e2]; rfl
              clear hcz
              go_wp2_with fail
              refine (ref7_grab HP.out.ref HP.out.len (by omega) 1).mono ?_
              rintro e w3 ⟨g', cap', v3, rfl, hb3, ho3, hl3, hg3, hB3⟩
              rw [HZ.out.2.1]
              rw [HZ.out.2.2.2] at hb3 hl3
              have H3 := Lib.hid (show IsBools w3 g' cap' l ∧ l.length = n ∧ (g' = g ∨ (wr.alloc (.cells #[.int .i64 0, .int .i64 y, .int .u32 x] 56)).heap.size ≤ g') ∧ Below (wr.alloc (.cells #[.int .i64 0, .int .i64 y, .int .u32 x] 56)).heap.size (wr.alloc (.cells #[.int .i64 0, .int .i64 y, .int .u32 x] 56)) w3 from ⟨hb3, hl3, hg3, hB3⟩)
              clear hb3 hl3 hg3 hB3 ho3
              go_wp2_with fail
              refine (take_full (HP.out.up.pool.still (Chg.of_below H3.out.2.2.2 _)) HZ.out.1).mono ?_
              rintro e w4 ⟨rfl, hs4⟩
              have HP' := Lib.hid (HP.out.step H3.out.1 H3.out.2.1 H3.out.2.2.1 H3.out.2.2.2 ((HP.out.up.pool.still (Chg.of_below H3.out.2.2.2 _)).still hs4) (hs4.mono (fun _ h => h.elim)))
              clear hs4 HP H3 HZ
              have HP := HP'
              clear HP'
              go_wp2
              go_meet
              exact ⟨rfl, _, _, _, rfl, HP.out⟩
            · obtain ⟨i, hi⟩ : ∃ i, Bt.first l 0 false = some i := by
                cases hf : Bt.first l 0 false with
                | none => have := Bt.fc_none hf; rw [Bt.fc_zero] at this; omega
                | some i => exact ⟨i, rfl⟩
              have HZ : Hid (Bt.first l 0 false = some i ∧ grabE l 1 = 0 ∧ grabG l 1 = [i] ∧ grabL l 1 = l.set i true) := by
                have e2 : grabG l 1 = [i] := by unfold grabG; rw [if_neg (by omega), show (1 : Int).toNat = 1 from rfl, Bt.gr_some hi, Bt.gr_zero]
                refine ⟨hi, by unfold grabE; rw [if_neg (by omega), if_neg (by omega)], e2, ?_⟩
                unfold grabL; rw [e2]; rfl
              have hil := (Bt.first_some.1 hi).1
              have hin : i < 65536 := by have := HP.out.len; omega
              clear hcz hi hil
              go_wp2_with fail
              refine (ref7_grab HP.out.ref HP.out.len (by omega) 1).mono ?_
              rintro e w3 ⟨g', cap', v3, rfl, hb3, ho3, hl3, hg3, hB3⟩
              rw [HZ.out.2.1]
              rw [HZ.out.2.2.2] at hb3 hl3
              rw [HZ.out.2.2.1] at ho3
              obtain ⟨g5, c5, rfl, hcell5⟩ := ho3.first
              have hg5 : (wr.alloc (.cells #[.int .i64 0, .int .i64 y, .int .u32 x] 56)).heap.size ≤ g5 := ho3.block g5 rfl
              have H3 := Lib.hid (show IsBools w3 g' cap' (l.set i true) ∧ (l.set i true).length = n ∧ (g' = g ∨ (wr.alloc (.cells #[.int .i64 0, .int .i64 y, .int .u32 x] 56)).heap.size ≤ g') ∧ Below (wr.alloc (.cells #[.int .i64 0, .int .i64 y, .int .u32 x] 56)).heap.size (wr.alloc (.cells #[.int .i64 0, .int .i64 y, .int .u32 x] 56)) w3 from ⟨hb3, hl3, hg3, hB3⟩)
              clear hb3 hl3 hg3 hB3 ho3
              have hg5' : g5 ≠ p ∧ g5 ≠ wb := by have := HP.out.up.pool.lt; omega
              have HC5 := Lib.hid (show w3.cell? ⟨g5, 0, none⟩ = some (.int .u32 (i : Nat)) ∧ g5 ≠ p ∧ g5 ≠ wb from ⟨hcell5, hg5'⟩)
              clear hcell5 hg5 hg5'
              go_wp2_with fail
              refine (take_ok (HP.out.up.pool.still (Chg.of_below H3.out.2.2.2 _)) ((HP.out.up.still (Chg.of_below H3.out.2.2.2 _)).tab HT.out hpos) (HP.out.up.ne hpos) i HZ.out.1).mono ?_
              rintro e w4 ⟨rfl, hr4, hc4⟩
              have hcell6 : w4.cell? ⟨g5, 0, none⟩ = some (.int .u32 (i : Nat)) := hc4.cell HC5.out.1 (by have := HC5.out.2; show ¬ (g5 = p ∨ g5 = wb); omega)
              have HP' := Lib.hid (HP.out.step H3.out.1 H3.out.2.1 H3.out.2.2.1 H3.out.2.2.2 hr4 hc4)
              clear hr4 hc4 HP H3 HZ HC5
              have HP := HP'
              clear HP'
              go_wp2
              go_meet
              exact ⟨rfl, _, _, _, rfl, HP.out⟩
        by_cases hz1 : z = 1
        · subst hz1
          as_aux_lemma =>
            rcases Nat.eq_zero_or_pos (l.count false) with hcz | hcz
            · have HZ : Hid (l.count false = 0 ∧ grabE l 1 = 11 ∧ grabG l 1 = [] ∧ grabL l 1 = l) := by
                have e2 : grabG l 1 = [] := by unfold grabG; rw [if_pos (by omega)]
                refine ⟨hcz, by unfold grabE; rw [if_neg (by omega), if_pos (by omega)], e2, ?_⟩
                unfold grabL; rw [e2]; rfl
              clear hcz
              go_wp2_with fail
              refine (ref7_grab HP.out.ref HP.out.len (by omega) 1).mono ?_
              rintro e w3 ⟨g', cap', v3, rfl, hb3, ho3, hl3, hg3, hB3⟩
              rw [HZ.out.2.1]
              rw [HZ.out.2.2.2] at hb3 hl3
              have H3 := Lib.hid (show IsBools w3 g' cap' l ∧ l.length = n ∧ (g' = g ∨ (wr.alloc (.cells #[.int .i64 1, .int .i64 y, .int .u32 x] 56)).heap.size ≤ g') ∧ Below (wr.alloc (.cells #[.int .i64 1, .int .i64 y, .int .u32 x] 56)).heap.size (wr.alloc (.cells #[.int .i64 1, .int .i64 y, .int .u32 x] 56)) w3 from ⟨hb3, hl3, hg3, hB3⟩)
              clear hb3 hl3 hg3 hB3 ho3
              go_wp2_with fail
              refine (take_full (HP.out.up.pool.still (Chg.of_below H3.out.2.2.2 _)) HZ.out.1).mono ?_
              rintro e w4 ⟨rfl, hs4⟩
              have HP' := Lib.hid (HP.out.step H3.out.1 H3.out.2.1 H3.out.2.2.1 H3.out.2.2.2 ((HP.out.up.pool.still (Chg.of_below H3.out.2.2.2 _)).still hs4) (hs4.mono (fun _ h => h.elim)))
              clear hs4 HP H3 HZ
              have HP := HP'
              clear HP'
              go_wp2
              go_meet
              exact ⟨rfl, _, _, _, rfl, HP.out⟩
            · obtain ⟨i, hi⟩ : ∃ i, Bt.first l 0 false = some i := by
                cases hf : Bt.first l 0 false with
                | none => have := Bt.fc_none hf; rw [Bt.fc_zero] at this; omega
                | some i => exact ⟨i, rfl⟩
              have HZ : Hid (Bt.first l 0 false = some i ∧ grabE l 1 = 0 ∧ grabG l 1 = [i] ∧ grabL l 1 = l.set i true) := by
                have e2 : grabG l 1 = [i] := by unfold grabG; rw [if_neg (by omega), show (1 : Int).toNat = 1 from rfl, Bt.gr_some hi, Bt.gr_zero]
                refine ⟨hi, by unfold grabE; rw [if_neg (by omega), if_neg (by omega)], e2, ?_⟩
                unfold grabL; rw [e2]; rfl
              have hil := (Bt.first_some.1 hi).1
              have hin : i < 65536 := by have := HP.out.len; omega
              clear hcz hi hil
              go_wp2_with fail
              refine (ref7_grab HP.out.ref HP.out.len (by omega) 1).mono ?_
              rintro e w3 ⟨g', cap', v3, rfl, hb3, ho3, hl3, hg3, hB3⟩
              rw [HZ.out.2.1]
              rw [HZ.out.2.2.2] at hb3 hl3
              rw [HZ.out.2.2.1] at ho3
              obtain ⟨g5, c5, rfl, hcell5⟩ := ho3.first
              have hg5 : (wr.alloc (.cells #[.int .i64 1, .int .i64 y, .int .u32 x] 56)).heap.size ≤ g5 := ho3.block g5 rfl
              have H3 := Lib.hid (show IsBools w3 g' cap' (l.set i true) ∧ (l.set i true).length = n ∧ (g' = g ∨ (wr.alloc (.cells #[.int .i64 1, .int .i64 y, .int .u32 x] 56)).heap.size ≤ g') ∧ Below (wr.alloc (.cells #[.int .i64 1, .int .i64 y, .int .u32 x] 56)).heap.size (wr.alloc (.cells #[.int .i64 1, .int .i64 y, .int .u32 x] 56)) w3 from ⟨hb3, hl3, hg3, hB3⟩)
              clear hb3 hl3 hg3 hB3 ho3
              have hg5' : g5 ≠ p ∧ g5 ≠ wb := by have := HP.out.up.pool.lt; omega
              have HC5 := Lib.hid (show w3.cell? ⟨g5, 0, none⟩ = some (.int .u32 (i : Nat)) ∧ g5 ≠ p ∧ g5 ≠ wb from ⟨hcell5, hg5'⟩)
              clear hcell5 hg5 hg5'
              go_wp2_with fail
              refine (take_ok (HP.out.up.pool.still (Chg.of_below H3.out.2.2.2 _)) ((HP.out.up.still (Chg.of_below H3.out.2.2.2 _)).tab HT.out hpos) (HP.out.up.ne hpos) i HZ.out.1).mono ?_
              rintro e w4 ⟨rfl, hr4, hc4⟩
              have hcell6 : w4.cell? ⟨g5, 0, none⟩ = some (.int .u32 (i : Nat)) := hc4.cell HC5.out.1 (by have := HC5.out.2; show ¬ (g5 = p ∨ g5 = wb); omega)
              have HP' := Lib.hid (HP.out.step H3.out.1 H3.out.2.1 H3.out.2.2.1 H3.out.2.2.2 hr4 hc4)
              clear hr4 hc4 HP H3 HZ HC5
              have HP := HP'
              clear HP'
              go_wp2
              go_meet
              exact ⟨rfl, _, _, _, rfl, HP.out⟩
        by_cases hz2 : z = 2
        · subst hz2
          as_aux_lemma =>
            go_wp2_with fail
            refine (ref7_grab HP.out.ref HP.out.len (by omega) y).mono ?_
            rintro e w3 ⟨g', cap', v3, rfl, hb3, ho3, hl3, hg3, hB3⟩
            have H3 := Lib.hid (show IsBools w3 g' cap' (grabL l y) ∧ (grabL l y).length = n ∧ (g' = g ∨ (wr.alloc (.cells #[.int .i64 2, .int .i64 y, .int .u32 x] 56)).heap.size ≤ g') ∧ Below (wr.alloc (.cells #[.int .i64 2, .int .i64 y, .int .u32 x] 56)).heap.size (wr.alloc (.cells #[.int .i64 2, .int .i64 y, .int .u32 x] 56)) w3 from ⟨hb3, hl3, hg3, hB3⟩)
            have HR3 := Lib.hid (show Rd32 w3 v3 (grabG l y) ∧ ∀ k, v3.ownBlock = some k → (wr.alloc (.cells #[.int .i64 2, .int .i64 y, .int .u32 x] 56)).heap.size ≤ k from ⟨ho3.rd, ho3.block⟩)
            have hay3 : w3.cell? ⟨wr.heap.size, 1, none⟩ = some (.int .i64 y) := by rw [hB3.cell (by simp)]; exact heap_cell (heap_alloc_new wr _) rfl
            clear hb3 hl3 hg3 hB3 ho3
            go_wp2_with fail
            refine (grab_pool (HP.out.up.pool.still (Chg.of_below H3.out.2.2.2 _)) ((HP.out.up.still (Chg.of_below H3.out.2.2.2 _)).tab HT.out hpos) (HP.out.up.ne hpos) y).mono ?_
            rintro e w4 ⟨v4, rfl, ho4, hr4, hc4⟩
            have HR4 : Hid (Rd32 w4 v4 (grabG l y) ∧ Rd32 w4 v3 (grabG l y) ∧ (grabG l y).length ≤ 65536) := ⟨ho4.rd, HR3.out.1.chg hc4 (fun k hk => by have h5 := HR3.out.2 k hk; have h6 := HP.out.up.pool.lt; show ¬ (k = p ∨ k = wb); omega), by have h7 := grabG_len l y; have h8 := HP.out.len; omega⟩
            have HP' := Lib.hid (HP.out.step H3.out.1 H3.out.2.1 H3.out.2.2.1 H3.out.2.2.2 hr4 hc4)
            clear hr4 hc4 ho4 HP H3 HR3 hay3
            have HP := HP'
            clear HP'
            go_wp2_with fail
            refine (ref7_same HR4.out.1 HR4.out.2.1 HR4.out.2.2 HR4.out.2.2).mono ?_
            rintro e w5 ⟨rfl, hs5⟩
            rw [decide_eq_true (rfl : grabG l y = grabG l y)]
            have HP' := Lib.hid (HP.out.still hs5)
            clear hs5 HP HR4
            have HP := HP'
            clear HP'
            go_wp2
            go_meet
            exact ⟨rfl, _, _, _, rfl, HP.out⟩
        by_cases hz3 : z = 3
        · subst hz3
          as_aux_lemma =>
            go_wp2_with fail
            refine (ref7_mark HP.out.ref HP.out.len (by omega) x hx0 hx1).mono ?_
            rintro e w3 ⟨g', cap', rfl, hb3, hl3, hg3, hB3⟩
            have H3 := Lib.hid (show IsBools w3 g' cap' (setL l x) ∧ (setL l x).length = n ∧ (g' = g ∨ (wr.alloc (.cells #[.int .i64 3, .int .i64 y, .int .u32 x] 56)).heap.size ≤ g') ∧ Below (wr.alloc (.cells #[.int .i64 3, .int .i64 y, .int .u32 x] 56)).heap.size (wr.alloc (.cells #[.int .i64 3, .int .i64 y, .int .u32 x] 56)) w3 from ⟨hb3, hl3, hg3, hB3⟩)
            have hax3 : w3.cell? ⟨wr.heap.size, 2, none⟩ = some (.int .u32 x) := by rw [hB3.cell (by simp)]; exact heap_cell (heap_alloc_new wr _) rfl
            clear hb3 hl3 hg3 hB3
            go_wp2_with fail
            refine (mark_pool (HP.out.up.pool.still (Chg.of_below H3.out.2.2.2 _)) x hx0 hx1).mono ?_
            rintro e w4 ⟨rfl, hr4, hc4⟩
            have HP' := Lib.hid (HP.out.step H3.out.1 H3.out.2.1 H3.out.2.2.1 H3.out.2.2.2 hr4 hc4)
            clear hr4 hc4 HP H3 hax3
            have HP := HP'
            clear HP'
            go_wp2
            go_meet
            exact ⟨rfl, _, _, _, rfl, HP.out⟩
        by_cases hz4 : z = 4
        · subst hz4
          as_aux_lemma =>
            go_wp2_with fail
            refine (ref7_give HP.out.ref HP.out.len (by omega) (by omega) x hx0 hx1).mono ?_
            rintro e w3 ⟨g', cap', rfl, hb3, hl3, hg3, hB3⟩
            have H3 := Lib.hid (show IsBools w3 g' cap' (giveL l x) ∧ (giveL l x).length = n ∧ (g' = g ∨ (wr.alloc (.cells #[.int .i64 4, .int .i64 y, .int .u32 x] 56)).heap.size ≤ g') ∧ Below (wr.alloc (.cells #[.int .i64 4, .int .i64 y, .int .u32 x] 56)).heap.size (wr.alloc (.cells #[.int .i64 4, .int .i64 y, .int .u32 x] 56)) w3 from ⟨hb3, hl3, hg3, hB3⟩)
            have hax3 : w3.cell? ⟨wr.heap.size, 2, none⟩ = some (.int .u32 x) := by rw [hB3.cell (by simp)]; exact heap_cell (heap_alloc_new wr _) rfl
            clear hb3 hl3 hg3 hB3
            go_wp2_with fail
            refine (give_pool (HP.out.up.pool.still (Chg.of_below H3.out.2.2.2 _)) x hx0 hx1).mono ?_
            rintro e w4 ⟨rfl, hr4, hc4⟩
            have HP' := Lib.hid (HP.out.step H3.out.1 H3.out.2.1 H3.out.2.2.1 H3.out.2.2.2 hr4 hc4)
            clear hr4 hc4 HP H3 hax3
            have HP := HP'
            clear HP'
            go_wp2
            go_meet
            exact ⟨rfl, _, _, _, rfl, HP.out⟩
        by_cases hz5 : z = 5
        · subst hz5
          as_aux_lemma =>
            go_wp2_with fail
            refine (ref7_give HP.out.ref HP.out.len (by omega) (by omega) x hx0 hx1).mono ?_
            rintro e w3 ⟨g', cap', rfl, hb3, hl3, hg3, hB3⟩
            have H3 := Lib.hid (show IsBools w3 g' cap' (giveL l x) ∧ (giveL l x).length = n ∧ (g' = g ∨ (wr.alloc (.cells #[.int .i64 5, .int .i64 y, .int .u32 x] 56)).heap.size ≤ g') ∧ Below (wr.alloc (.cells #[.int .i64 5, .int .i64 y, .int .u32 x] 56)).heap.size (wr.alloc (.cells #[.int .i64 5, .int .i64 y, .int .u32 x] 56)) w3 from ⟨hb3, hl3, hg3, hB3⟩)
            have hax3 : w3.cell? ⟨wr.heap.size, 2, none⟩ = some (.int .u32 x) := by rw [hB3.cell (by simp)]; exact heap_cell (heap_alloc_new wr _) rfl
            clear hb3 hl3 hg3 hB3
            go_wp2_with fail
            refine (give_pool (HP.out.up.pool.still (Chg.of_below H3.out.2.2.2 _)) x hx0 hx1).mono ?_
            rintro e w4 ⟨rfl, hr4, hc4⟩
            have HP' := Lib.hid (HP.out.step H3.out.1 H3.out.2.1 H3.out.2.2.1 H3.out.2.2.2 hr4 hc4)
            clear hr4 hc4 HP H3 hax3
            have HP := HP'
            clear HP'
            go_wp2
            go_meet
            exact ⟨rfl, _, _, _, rfl, HP.out⟩
        have b0 : (z == 0) = false := beq_eq_false_iff_ne.2 hz0
        have b1 : (z == 1) = false := beq_eq_false_iff_ne.2 hz1
        have b2 : (z == 2) = false := beq_eq_false_iff_ne.2 hz2
        have b3 : (z == 3) = false := beq_eq_false_iff_ne.2 hz3
        have b4 : (z == 4) = false := beq_eq_false_iff_ne.2 hz4
        have b5 : (z == 5) = false := beq_eq_false_iff_ne.2 hz5
        clear hz0 hz1 hz2 hz3 hz4 hz5
        go_wp2
        go_meet
        exact ⟨rfl, _, _, _, rfl, HP.out⟩
      case rest =>
        clear HP hkd hka hkx
        obtain ⟨rfl, g, cap, l, rfl, hP⟩ := hcut
        have HP := Lib.hid hP
        clear hP
        by_cases hask : ask < n
        · obtain ⟨aN, rfl⟩ := Int.eq_ofNat_of_zero_le ha0
          have hcask := HP.out.ref.cell aN (by rw [HP.out.len]; omega)
          have HHB : Hid (hasB (l) (aN : Int) = (l).getD aN false) := by have hlq := HP.out.len; refine Lib.hid ?_; unfold hasB; rw [decide_eq_true (show (0 : Int) ≤ (aN : Int) by omega), decide_eq_true (show (aN : Int) < ((l).length : Int) by omega)]; simp
          generalize (l).getD aN false = hb0 at hcask HHB
          as_aux_lemma =>
            go_wp2_with fail
            have HLN := Lib.hid (show (l).length = n ∧ (Bt.tf (l) 0).length ≤ 65536 from ⟨HP.out.len, by have := Bt.tf_len (l) 0; have := HP.out.len; omega⟩)
            refine (row_pool HP.out.up.pool (HP.out.up.tab HT.out hpos)).mono ?_
            rintro e w6 ⟨vr, rfl, ho6, hs6⟩
            have HP6 := Lib.hid (show Pl w.heap.size w n w6 q p wb g cap (l) from HP.out.still hs6)
            have HR6 := Lib.hid (show Rd32 w6 vr (Bt.tf (l) 0) from ho6.rd)
            clear ho6 hs6 HP
            go_wp2_with fail
            refine (ref7_row HP6.out.ref HP6.out.len (by omega)).mono ?_
            rintro e w7 ⟨vs, rfl, ho7, hb7⟩
            have HP7 := Lib.hid (show Pl w.heap.size w n w7 q p wb g cap (l) from HP6.out.still (Chg.of_below hb7 _))
            have HR7 := Lib.hid (show Rd32 w7 vr (Bt.tf (l) 0) ∧ Rd32 w7 vs (Bt.tf (l) 0) from ⟨HR6.out.chg (Chg.of_below hb7 (fun _ => False)) (fun _ _ => id), ho7.rd⟩)
            clear ho7 hb7 HP6 HR6
            go_wp2_with fail
            refine (ref7_same HR7.out.1 HR7.out.2 HLN.out.2 HLN.out.2).mono ?_
            rintro e w8 ⟨rfl, hs8⟩
            rw [decide_eq_true (rfl : Bt.tf (l) 0 = Bt.tf (l) 0)]
            have HP8 := Lib.hid (show Pl w.heap.size w n w8 q p wb g cap (l) from HP7.out.still hs8)
            clear hs8 HP7 HR7
            obtain ⟨cf, hcf⟩ : ∃ cf, (l).count false = cf := ⟨_, rfl⟩
            obtain ⟨ct, hct⟩ : ∃ ct, (l).count true = ct := ⟨_, rfl⟩
            have hsum : ct + cf = n := by rw [← hcf, ← hct, count_sum]; exact HLN.out.1
            have HCF := Lib.hid hcf
            have HCT := Lib.hid hct
            have hne : ((ct : Int) != (n : Int) - (cf : Int)) = false := by simp only [bne_eq_false_iff_eq]; omega
            have hcfn : cf ≤ n := by omega
            clear hcf hct hsum
            go_wp2_with fail
            refine (free_pool HP8.out.up.pool).mono ?_
            rintro e w9 ⟨rfl, hs9⟩
            rw [HCF.out]
            have HP9 := Lib.hid (show Pl w.heap.size w n w9 q p wb g cap (l) from HP8.out.still hs9)
            clear hs9 HP8
            go_wp2_with fail
            refine (ref7_free HP9.out.ref HP9.out.len (by omega)).mono ?_
            rintro e w10 ⟨rfl, rfl⟩
            rw [HCF.out]
            go_wp2_with fail
            refine (held_pool HP9.out.up.pool).mono ?_
            rintro e w10 ⟨rfl, rfl⟩
            rw [HCT.out]
            go_wp2_with fail
            refine (ref7_free HP9.out.ref HP9.out.len (by omega)).mono ?_
            rintro e w10 ⟨rfl, rfl⟩
            rw [HCF.out]
            go_wp2_with fail
            refine (has_pool HP9.out.up.pool (aN : Int) ha0 ha1).mono ?_
            rintro e w10 ⟨rfl, rfl⟩
            rw [HHB.out]
            go_wp2
            go_roundw
            case rel => exact ⟨k + 1, g, cap, _, by omega, by omega, by go_num, rfl, HP9.out⟩
            case measure => simp [intOf]; omega
        · have HHB : Hid (hasB (l) ask = false) := by have hlq := HP.out.len; refine Lib.hid ?_; unfold hasB; rw [decide_eq_false (show ¬ (ask < ((l).length : Int)) by omega)]; simp
          as_aux_lemma =>
            go_wp2_with fail
            have HLN := Lib.hid (show (l).length = n ∧ (Bt.tf (l) 0).length ≤ 65536 from ⟨HP.out.len, by have := Bt.tf_len (l) 0; have := HP.out.len; omega⟩)
            refine (row_pool HP.out.up.pool (HP.out.up.tab HT.out hpos)).mono ?_
            rintro e w6 ⟨vr, rfl, ho6, hs6⟩
            have HP6 := Lib.hid (show Pl w.heap.size w n w6 q p wb g cap (l) from HP.out.still hs6)
            have HR6 := Lib.hid (show Rd32 w6 vr (Bt.tf (l) 0) from ho6.rd)
            clear ho6 hs6 HP
            go_wp2_with fail
            refine (ref7_row HP6.out.ref HP6.out.len (by omega)).mono ?_
            rintro e w7 ⟨vs, rfl, ho7, hb7⟩
            have HP7 := Lib.hid (show Pl w.heap.size w n w7 q p wb g cap (l) from HP6.out.still (Chg.of_below hb7 _))
            have HR7 := Lib.hid (show Rd32 w7 vr (Bt.tf (l) 0) ∧ Rd32 w7 vs (Bt.tf (l) 0) from ⟨HR6.out.chg (Chg.of_below hb7 (fun _ => False)) (fun _ _ => id), ho7.rd⟩)
            clear ho7 hb7 HP6 HR6
            go_wp2_with fail
            refine (ref7_same HR7.out.1 HR7.out.2 HLN.out.2 HLN.out.2).mono ?_
            rintro e w8 ⟨rfl, hs8⟩
            rw [decide_eq_true (rfl : Bt.tf (l) 0 = Bt.tf (l) 0)]
            have HP8 := Lib.hid (show Pl w.heap.size w n w8 q p wb g cap (l) from HP7.out.still hs8)
            clear hs8 HP7 HR7
            obtain ⟨cf, hcf⟩ : ∃ cf, (l).count false = cf := ⟨_, rfl⟩
            obtain ⟨ct, hct⟩ : ∃ ct, (l).count true = ct := ⟨_, rfl⟩
            have hsum : ct + cf = n := by rw [← hcf, ← hct, count_sum]; exact HLN.out.1
            have HCF := Lib.hid hcf
            have HCT := Lib.hid hct
            have hne : ((ct : Int) != (n : Int) - (cf : Int)) = false := by simp only [bne_eq_false_iff_eq]; omega
            have hcfn : cf ≤ n := by omega
            clear hcf hct hsum
            go_wp2_with fail
            refine (free_pool HP8.out.up.pool).mono ?_
            rintro e w9 ⟨rfl, hs9⟩
            rw [HCF.out]
            have HP9 := Lib.hid (show Pl w.heap.size w n w9 q p wb g cap (l) from HP8.out.still hs9)
            clear hs9 HP8
            go_wp2_with fail
            refine (ref7_free HP9.out.ref HP9.out.len (by omega)).mono ?_
            rintro e w10 ⟨rfl, rfl⟩
            rw [HCF.out]
            go_wp2_with fail
            refine (held_pool HP9.out.up.pool).mono ?_
            rintro e w10 ⟨rfl, rfl⟩
            rw [HCT.out]
            go_wp2_with fail
            refine (ref7_free HP9.out.ref HP9.out.len (by omega)).mono ?_
            rintro e w10 ⟨rfl, rfl⟩
            rw [HCF.out]
            go_wp2_with fail
            refine (has_pool HP9.out.up.pool ask ha0 ha1).mono ?_
            rintro e w10 ⟨rfl, rfl⟩
            rw [HHB.out]
            go_wp2
            go_roundw
            case rel => exact ⟨k + 1, g, cap, _, by omega, by omega, by go_num, rfl, HP9.out⟩
            case measure => simp [intOf]; omega
    · have HB := Lib.hid (show Below w.heap.size w wr ∧ w.heap.size ≤ wr.heap.size ∧ TabAt 0 Lib.deBruijn64tab wr from ⟨HP0.out.up.below, HP0.out.up.hB, HP0.out.up.tab HT.out hpos⟩)
      clear HP0
      have key : (¬ k < len) ∨ (k < len ∧ ¬ k < 60) := by omega
      clear hlt
      rcases key with key | ⟨key, key2⟩
      all_goals
        go_wp2_with (go_at_call 30; refine (awake07 _ HB.out.2.2).mono ?_; rintro e w9 ⟨rfl, hb9⟩)
        go_ret
        exact ⟨rfl, HB.out.1.trans (hb9.mono HB.out.2.1)⟩
end Go.Proofs.YtliamjhjdoakcaaDoor
