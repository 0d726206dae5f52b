/- BitsPlay, by its contract. -/
import Derived.Test.YtliamjhjdoakcaaDoorLc
namespace Go.Proofs.YtliamjhjdoakcaaDoor
open Go Go.RowKit Go.Shelf
set_option linter.unusedVariables false
set_option linter.unusedSimpArgs false

theorem firstE_form (r : Option Nat) : ∃ (x : Int) (ok : Bool), firstE r = .returned (.tuple #[.int .i64 x, .bool ok]) := by
  cases r
  · exact ⟨_, _, rfl⟩
  · exact ⟨_, _, rfl⟩

/-- A row beside the reference's list. -/
structure Play (B : Nat) (w0 : World) (n : Nat) (w : World) (p wb g cap : Nat) (l : List Bool) : Prop where
  len : l.length = n
  row : IsRow w p wb l
  ref : IsBools w g cap l
  gp : g ≠ p
  gw : g ≠ wb
  bp : B ≤ p
  bw : B ≤ wb
  bg : B ≤ g
  hB : B ≤ w.heap.size
  below : Below B w0 w

theorem Play.still {B : Nat} {w0 : World} {n : Nat} {w w' : World} {p wb g cap : Nat} {l : List Bool} (h : Play B w0 n w p wb g cap l) (hc : Still w w') : Play B w0 n w' p wb g cap l :=
  ⟨h.len, h.row.still hc, h.ref.still hc, h.gp, h.gw, h.bp, h.bw, h.bg, Nat.le_trans h.hB hc.size, h.below.trans (hc.below h.hB (fun _ h => h.elim))⟩
theorem Play.set {B : Nat} {w0 : World} {n : Nat} {w w1 w2 : World} {p wb g cap g' cap' : Nat} {l l' : List Bool} (h : Play B w0 n w p wb g cap l) (hb : IsBools w1 g' cap' l') (hlen : l'.length = n)
    (hg : g' = g ∨ w.heap.size ≤ g') (hB : Below w.heap.size w w1) (hr : IsRow w2 p wb l') (hc : Chg (fun k => k = p ∨ k = wb) w1 w2) : Play B w0 n w2 p wb g' cap' l' := by
  have hlt := h.row.lt
  have h1 := h.gp
  have h2 := h.gw
  have h3 := h.hB
  have h4 := h.bg
  have hs := hB.size
  have hs2 := hc.size
  have e1 : g' ≠ p := by omega
  have e2 : g' ≠ wb := by omega
  refine ⟨hlen, hr, hb.chg hc (by simp [e1, e2]), e1, e2, h.bp, h.bw, by omega, by omega, (h.below.trans (hB.mono h3)).trans (hc.below (by omega) (fun i hi => by rcases hi with rfl | rfl; exact h.bp; exact h.bw))⟩
theorem Play.fork {B : Nat} {w0 : World} {n : Nat} {w w1 w2 w3 : World} {p wb p1 wb1 g cap : Nat} {l : List Bool} (h : Play B w0 n w p wb g cap l) (hr : IsRow w1 p1 wb1 l) (hp : w.heap.size ≤ p1) (hwb : w.heap.size ≤ wb1)
    (hB : Below w.heap.size w w1) (hc : Chg (fun k => k = p ∨ k = wb) w1 w2) (hc2 : Chg (fun k => k = p ∨ k = wb) w2 w3) : Play B w0 n w3 p1 wb1 g cap l := by
  have hlt := h.row.lt
  have hgl := h.ref.lt
  have h1 := h.gp
  have h2 := h.gw
  have h3 := h.hB
  have hs := hB.size
  have hs2 := hc.size
  have hs3 := hc2.size
  have hcc := hc.trans hc2
  have hgood : ∀ i, w.heap.size ≤ i → ¬ (i = p ∨ i = wb) := fun i hi => by omega
  refine ⟨h.len, hr.chg hcc (hgood _ hp) (hgood _ hwb), (h.ref.still (Chg.of_below hB _)).chg hcc (by omega), by omega, by omega, by omega, by omega, h.bg, by omega, (h.below.trans (hB.mono h3)).trans (hcc.below (by omega) (fun i hi => by rcases hi with rfl | rfl; exact h.bp; exact h.bw))⟩
theorem Play.tab {B : Nat} {w0 : World} {n : Nat} {w : World} {p wb g cap : Nat} {l : List Bool} (h : Play B w0 n w p wb g cap l) (hT : TabAt 0 Lib.deBruijn64tab w0) (hB : 0 < B) : TabAt 0 Lib.deBruijn64tab w :=
  fun j hj => (h.below.cell hB).trans (hT j hj)

/-- The acts that came in. -/
def Acts (w : World) (B : Nat) (A : Option Addr) (len : Nat) (kd ar : Nat → Int) : Prop :=
  ∃ b off, (0 < len → A = some ⟨b, off, none⟩) ∧ b < B ∧ ∀ k, k < len → w.cell? ⟨b, off + k * 2, none⟩ = some (.int .i64 (kd k)) ∧ w.cell? ⟨b, off + k * 2 + 1, none⟩ = some (.int .i64 (ar k))
theorem Acts.at_ {w w' : World} {B : Nat} {A : Option Addr} {len : Nat} {kd ar : Nat → Int} (h : Acts w B A len kd ar) (hb : Below B w w') (k : Nat) (hk : k < len) :
    ∃ b off, A = some ⟨b, off, none⟩ ∧ w'.cell? ⟨b, off + k * 2, none⟩ = some (.int .i64 (kd k)) ∧ w'.cell? ⟨b, off + k * 2 + 1, none⟩ = some (.int .i64 (ar k)) := by
  obtain ⟨b, off, hA, hlt, hc⟩ := h
  exact ⟨b, off, hA (by omega), (hb.cell hlt).trans (hc k hk).1, (hb.cell hlt).trans (hc k hk).2⟩

theorem ref_set' {w : World} {g cap n : Nat} {l : List Bool} (h : IsBools w g cap l) (hn : l.length = n) (hl : n ≤ 65536) (i : Int) :
    Calls Tryd.prog 17 #[.slice (some ⟨g, 0, none⟩) n cap, .int .i64 i] w (ListR w g cap n (setL l i) (setE l i)) := by subst hn; exact ref_set h hl i
theorem ref_clear' {w : World} {g cap n : Nat} {l : List Bool} (h : IsBools w g cap l) (hn : l.length = n) (hl : n ≤ 65536) (i : Int) :
    Calls Tryd.prog 18 #[.slice (some ⟨g, 0, none⟩) n cap, .int .i64 i] w (ListR w g cap n (clearL l i) (clearE l i)) := by subst hn; exact ref_clear h hl i
theorem ref_has' {w : World} {g cap n : Nat} {l : List Bool} (h : IsBools w g cap l) (hn : l.length = n) (hl : n ≤ 65536) (i : Int) :
    Calls Tryd.prog 23 #[.slice (some ⟨g, 0, none⟩) n cap, .int .i64 i] w fun e w' => e = .returned (.bool (hasB l i)) ∧ w = w' := by subst hn; exact ref_has h hl i
theorem ref_count' {w : World} {g cap n : Nat} {l : List Bool} (h : IsBools w g cap l) (hn : l.length = n) (hl : n ≤ 65536) :
    Calls Tryd.prog 22 #[.slice (some ⟨g, 0, none⟩) n cap] w fun e w' => e = .returned (.int .i64 (l.count true)) ∧ w = w' := by subst hn; exact ref_count h hl
theorem ref_first' {w : World} {g cap n : Nat} {l : List Bool} (h : IsBools w g cap l) (hn : l.length = n) (hl : n ≤ 65536) (f : Int) (b : Bool) :
    Calls Tryd.prog 21 #[.slice (some ⟨g, 0, none⟩) n cap, .int .i64 f, .bool b] w fun e w' => e = firstE (Bt.first l f.toNat b) ∧ w = w' := by subst hn; exact ref_first h hl f b
theorem Play.size {B : Nat} {w0 : World} {n : Nat} {w : World} {p wb g cap : Nat} {l : List Bool} (h : Play B w0 n w p wb g cap l) : w.cell? ⟨p, 0, none⟩ = some (.int .i64 n) := by
  have := h.row.size; rwa [h.len] at this

def PlayR (B : Nat) (w0 : World) (n m : Nat) (r v i : Value) (w : World) : Prop :=
  ∃ k p wb g cap l, k ≤ m ∧ k ≤ 60 ∧ i = .int .i64 (k : Nat) ∧ r = .pointer (some ⟨p, 0, none⟩) ∧ v = .slice (some ⟨g, 0, none⟩) n cap ∧ Play B w0 n w p wb g cap l

set_option maxHeartbeats 4000000 in
set_option maxRecDepth 100000 in
theorem play_loop (w : World) (hT : TabAt 0 Lib.deBruijn64tab w) (n : Nat) (h1 : 1 ≤ n) (h2 : n ≤ 300) (A : Option Addr) (len cap0 : Nat) (hlen : len ≤ 9223372036854775807) (kd ar : Nat → Int) (hA : Acts w w.heap.size A len kd ar) (ask : Int) :
    Calls Tryd.prog 4 #[.int .i64 n, .slice A len cap0, .int .i64 ask] w (TrueP w) := by
  have HT := Lib.hid hT
  have HA := Lib.hid hA
  have hpos := tab_lt hT
  clear hT hA
  go_enter Tryd.func4, Tryd.ntmps4
  go_wp2_with fail
  refine (new_ok n w h1 (by omega)).mono ?_
  rintro e w1 ⟨p, wb, rfl, hr, hp, hwb, hB⟩
  have Hr := Lib.hid hr
  have HB := Lib.hid hB
  clear hr hB
  go_wp2_with fail
  refine (ref_new n w1 (by omega)).mono ?_
  rintro e w2 ⟨g, rfl, hb, hg, hB2⟩
  have hP : Play w.heap.size w n w2 p wb g n (List.replicate n false) := by
    have hlt := Hr.out.lt
    exact ⟨by simp, Hr.out.still (Chg.of_below hB2 _), hb, by omega, by omega, hp, hwb, Nat.le_trans HB.out.size hg, Nat.le_trans HB.out.size hB2.size, HB.out.trans (hB2.mono HB.out.size)⟩
  have HP := Lib.hid hP
  clear hb hB2 hP
  go_wp2_with fail
  go_loopw [7, 9, 10] (fun r v i wr => PlayR w.heap.size w n len r v i wr) (fun _ _ i _ => len - (intOf i).toNat)
  case atStart => exact ⟨0, p, wb, g, n, _, Nat.zero_le _, by omega, rfl, rfl, rfl, HP.out⟩
  case round =>
    clear HP Hr HB
    obtain ⟨k, p, wb, g, cap, l, hk, hk6, rfl, rfl, rfl, hP⟩ := hrel
    have HP := Lib.hid hP
    clear hP
    by_cases hlt : k < len ∧ k < 60
    · obtain ⟨hlt, h60⟩ := hlt
      obtain ⟨b, off, rfl, hkd, har⟩ := HA.out.at_ HP.out.below k hlt
      have hbl : b < wr.heap.size := World.block_lt_of_cell? wr _ hkd
      generalize kd k = q at hkd
      generalize ar k = x at har
      by_cases hq0 : q = 0
      · subst hq0
        go_wp2_with fail
        refine (ref_set' HP.out.ref HP.out.len (by omega) x).mono ?_
        rintro e w3 ⟨g', cap', rfl, hb3, hl3, hg3, hB3⟩
        have H3 := Lib.hid (show IsBools w3 g' cap' (setL l x) ∧ (setL l x).length = n ∧ (g' = g ∨ wr.heap.size ≤ g') ∧ Below wr.heap.size wr w3 ∧ IsRow w3 p wb l from ⟨hb3, hl3, hg3, hB3, HP.out.row.still (Chg.of_below hB3 _)⟩)
        have har3 := (hB3.cell (p := ⟨b, off + k * 2 + 1, none⟩) hbl).trans har
        clear hb3 hl3 hg3 hB3
        go_wp2_with fail
        refine (row_set H3.out.2.2.2.2 x).mono ?_
        rintro e w4 ⟨rfl, hr4, hc4⟩
        have HP' := Lib.hid (HP.out.set H3.out.1 H3.out.2.1 H3.out.2.2.1 H3.out.2.2.2.1 hr4 hc4)
        clear hr4 hc4 HP H3
        have HP := HP'
        clear HP'
        go_wp2_with fail
        obtain ⟨x1, o1, e1⟩ := firstE_form (Bt.first (setL l x) ask.toNat false)
        obtain ⟨x2, o2, e2⟩ := firstE_form (Bt.first (setL l x) ask.toNat true)
        have E1 := Lib.hid e1
        have E2 := Lib.hid e2
        clear e1 e2
        refine (row_free' HP.out.row (HP.out.tab HT.out hpos) ask).mono ?_
        rintro e w5 ⟨rfl, hc5⟩
        rw [E1.out]
        have HP5 := Lib.hid (HP.out.still hc5)
        clear hc5
        go_wp2_with fail
        refine (ref_first' HP5.out.ref HP5.out.len (by omega) ask false).mono ?_
        rintro e w6 ⟨rfl, rfl⟩
        rw [E1.out]
        go_wp2_with fail
        refine (row_next' HP5.out.row (HP5.out.tab HT.out hpos) ask).mono ?_
        rintro e w7 ⟨rfl, hc7⟩
        rw [E2.out]
        have HP7 := Lib.hid (HP5.out.still hc7)
        clear hc7
        go_wp2_with fail
        refine (ref_first' HP7.out.ref HP7.out.len (by omega) ask true).mono ?_
        rintro e w8 ⟨rfl, rfl⟩
        rw [E2.out]
        go_wp2_with fail
        refine (len_row _ _ _ HP7.out.size).mono ?_
        rintro e w9 ⟨rfl, rfl⟩
        go_wp2_with fail
        refine (count_row _ _ _ HP7.out.row.count).mono ?_
        rintro e w9 ⟨rfl, rfl⟩
        go_wp2_with fail
        refine (ref_count' HP7.out.ref HP7.out.len (by omega)).mono ?_
        rintro e w9 ⟨rfl, rfl⟩
        go_wp2_with fail
        refine (row_has HP7.out.row ask).mono ?_
        rintro e w9 ⟨rfl, rfl⟩
        go_wp2_with fail
        refine (ref_has' HP7.out.ref HP7.out.len (by omega) ask).mono ?_
        rintro e w9 ⟨rfl, rfl⟩
        go_wp2
        go_roundw
        case rel => exact ⟨k + 1, p, wb, g', cap', _, by omega, by omega, by go_num, rfl, rfl, HP7.out⟩
        case measure => simp [intOf]; omega
      by_cases hq1 : q = 1
      · subst hq1
        go_wp2_with fail
        refine (ref_set' HP.out.ref HP.out.len (by omega) x).mono ?_
        rintro e w3 ⟨g', cap', rfl, hb3, hl3, hg3, hB3⟩
        have H3 := Lib.hid (show IsBools w3 g' cap' (setL l x) ∧ (setL l x).length = n ∧ (g' = g ∨ wr.heap.size ≤ g') ∧ Below wr.heap.size wr w3 ∧ IsRow w3 p wb l from ⟨hb3, hl3, hg3, hB3, HP.out.row.still (Chg.of_below hB3 _)⟩)
        have har3 := (hB3.cell (p := ⟨b, off + k * 2 + 1, none⟩) hbl).trans har
        clear hb3 hl3 hg3 hB3
        go_wp2_with fail
        refine (row_set H3.out.2.2.2.2 x).mono ?_
        rintro e w4 ⟨rfl, hr4, hc4⟩
        have HP' := Lib.hid (HP.out.set H3.out.1 H3.out.2.1 H3.out.2.2.1 H3.out.2.2.2.1 hr4 hc4)
        clear hr4 hc4 HP H3
        have HP := HP'
        clear HP'
        go_wp2_with fail
        obtain ⟨x1, o1, e1⟩ := firstE_form (Bt.first (setL l x) ask.toNat false)
        obtain ⟨x2, o2, e2⟩ := firstE_form (Bt.first (setL l x) ask.toNat true)
        have E1 := Lib.hid e1
        have E2 := Lib.hid e2
        clear e1 e2
        refine (row_free' HP.out.row (HP.out.tab HT.out hpos) ask).mono ?_
        rintro e w5 ⟨rfl, hc5⟩
        rw [E1.out]
        have HP5 := Lib.hid (HP.out.still hc5)
        clear hc5
        go_wp2_with fail
        refine (ref_first' HP5.out.ref HP5.out.len (by omega) ask false).mono ?_
        rintro e w6 ⟨rfl, rfl⟩
        rw [E1.out]
        go_wp2_with fail
        refine (row_next' HP5.out.row (HP5.out.tab HT.out hpos) ask).mono ?_
        rintro e w7 ⟨rfl, hc7⟩
        rw [E2.out]
        have HP7 := Lib.hid (HP5.out.still hc7)
        clear hc7
        go_wp2_with fail
        refine (ref_first' HP7.out.ref HP7.out.len (by omega) ask true).mono ?_
        rintro e w8 ⟨rfl, rfl⟩
        rw [E2.out]
        go_wp2_with fail
        refine (len_row _ _ _ HP7.out.size).mono ?_
        rintro e w9 ⟨rfl, rfl⟩
        go_wp2_with fail
        refine (count_row _ _ _ HP7.out.row.count).mono ?_
        rintro e w9 ⟨rfl, rfl⟩
        go_wp2_with fail
        refine (ref_count' HP7.out.ref HP7.out.len (by omega)).mono ?_
        rintro e w9 ⟨rfl, rfl⟩
        go_wp2_with fail
        refine (row_has HP7.out.row ask).mono ?_
        rintro e w9 ⟨rfl, rfl⟩
        go_wp2_with fail
        refine (ref_has' HP7.out.ref HP7.out.len (by omega) ask).mono ?_
        rintro e w9 ⟨rfl, rfl⟩
        go_wp2
        go_roundw
        case rel => exact ⟨k + 1, p, wb, g', cap', _, by omega, by omega, by go_num, rfl, rfl, HP7.out⟩
        case measure => simp [intOf]; omega
      by_cases hq2 : q = 2
      · subst hq2
        go_wp2_with fail
        refine (ref_clear' HP.out.ref HP.out.len (by omega) x).mono ?_
        rintro e w3 ⟨g', cap', rfl, hb3, hl3, hg3, hB3⟩
        have H3 := Lib.hid (show IsBools w3 g' cap' (clearL l x) ∧ (clearL l x).length = n ∧ (g' = g ∨ wr.heap.size ≤ g') ∧ Below wr.heap.size wr w3 ∧ IsRow w3 p wb l from ⟨hb3, hl3, hg3, hB3, HP.out.row.still (Chg.of_below hB3 _)⟩)
        have har3 := (hB3.cell (p := ⟨b, off + k * 2 + 1, none⟩) hbl).trans har
        clear hb3 hl3 hg3 hB3
        go_wp2_with fail
        refine (row_clear H3.out.2.2.2.2 x).mono ?_
        rintro e w4 ⟨rfl, hr4, hc4⟩
        have HP' := Lib.hid (HP.out.set H3.out.1 H3.out.2.1 H3.out.2.2.1 H3.out.2.2.2.1 hr4 hc4)
        clear hr4 hc4 HP H3
        have HP := HP'
        clear HP'
        go_wp2_with fail
        obtain ⟨x1, o1, e1⟩ := firstE_form (Bt.first (clearL l x) ask.toNat false)
        obtain ⟨x2, o2, e2⟩ := firstE_form (Bt.first (clearL l x) ask.toNat true)
        have E1 := Lib.hid e1
        have E2 := Lib.hid e2
        clear e1 e2
        refine (row_free' HP.out.row (HP.out.tab HT.out hpos) ask).mono ?_
        rintro e w5 ⟨rfl, hc5⟩
        rw [E1.out]
        have HP5 := Lib.hid (HP.out.still hc5)
        clear hc5
        go_wp2_with fail
        refine (ref_first' HP5.out.ref HP5.out.len (by omega) ask false).mono ?_
        rintro e w6 ⟨rfl, rfl⟩
        rw [E1.out]
        go_wp2_with fail
        refine (row_next' HP5.out.row (HP5.out.tab HT.out hpos) ask).mono ?_
        rintro e w7 ⟨rfl, hc7⟩
        rw [E2.out]
        have HP7 := Lib.hid (HP5.out.still hc7)
        clear hc7
        go_wp2_with fail
        refine (ref_first' HP7.out.ref HP7.out.len (by omega) ask true).mono ?_
        rintro e w8 ⟨rfl, rfl⟩
        rw [E2.out]
        go_wp2_with fail
        refine (len_row _ _ _ HP7.out.size).mono ?_
        rintro e w9 ⟨rfl, rfl⟩
        go_wp2_with fail
        refine (count_row _ _ _ HP7.out.row.count).mono ?_
        rintro e w9 ⟨rfl, rfl⟩
        go_wp2_with fail
        refine (ref_count' HP7.out.ref HP7.out.len (by omega)).mono ?_
        rintro e w9 ⟨rfl, rfl⟩
        go_wp2_with fail
        refine (row_has HP7.out.row ask).mono ?_
        rintro e w9 ⟨rfl, rfl⟩
        go_wp2_with fail
        refine (ref_has' HP7.out.ref HP7.out.len (by omega) ask).mono ?_
        rintro e w9 ⟨rfl, rfl⟩
        go_wp2
        go_roundw
        case rel => exact ⟨k + 1, p, wb, g', cap', _, by omega, by omega, by go_num, rfl, rfl, HP7.out⟩
        case measure => simp [intOf]; omega
      by_cases hq3 : q = 3
      · subst hq3
        go_wp2_with fail
        refine (row_fork HP.out.row).mono ?_
        rintro e w3 ⟨p', wb', rfl, hr3, hp3, hwb3, hB3⟩
        have H3 := Lib.hid (show IsRow w3 p' wb' l ∧ wr.heap.size ≤ p' ∧ wr.heap.size ≤ wb' ∧ Below wr.heap.size wr w3 ∧ IsRow w3 p wb l from ⟨hr3, hp3, hwb3, hB3, HP.out.row.still (Chg.of_below hB3 _)⟩)
        have har3 := (hB3.cell (p := ⟨b, off + k * 2 + 1, none⟩) hbl).trans har
        clear hr3 hp3 hwb3 hB3
        go_wp2_with fail
        refine (row_set H3.out.2.2.2.2 x).mono ?_
        rintro e w4 ⟨rfl, hr4, hc4⟩
        have H4 := Lib.hid (show IsRow w4 p wb (setL l x) ∧ Chg (fun k => k = p ∨ k = wb) w3 w4 from ⟨hr4, hc4⟩)
        clear hr4 hc4
        go_wp2_with fail
        refine (row_clear H4.out.1 0).mono ?_
        rintro e w4' ⟨rfl, hr5, hc5⟩
        have HP' := Lib.hid (HP.out.fork H3.out.1 H3.out.2.1 H3.out.2.2.1 H3.out.2.2.2.1 H4.out.2 hc5)
        clear hr5 hc5 HP H3 H4
        have HP := HP'
        clear HP'
        go_wp2_with fail
        obtain ⟨x1, o1, e1⟩ := firstE_form (Bt.first (l) ask.toNat false)
        obtain ⟨x2, o2, e2⟩ := firstE_form (Bt.first (l) ask.toNat true)
        have E1 := Lib.hid e1
        have E2 := Lib.hid e2
        clear e1 e2
        refine (row_free' HP.out.row (HP.out.tab HT.out hpos) ask).mono ?_
        rintro e w5 ⟨rfl, hc5⟩
        rw [E1.out]
        have HP5 := Lib.hid (HP.out.still hc5)
        clear hc5
        go_wp2_with fail
        refine (ref_first' HP5.out.ref HP5.out.len (by omega) ask false).mono ?_
        rintro e w6 ⟨rfl, rfl⟩
        rw [E1.out]
        go_wp2_with fail
        refine (row_next' HP5.out.row (HP5.out.tab HT.out hpos) ask).mono ?_
        rintro e w7 ⟨rfl, hc7⟩
        rw [E2.out]
        have HP7 := Lib.hid (HP5.out.still hc7)
        clear hc7
        go_wp2_with fail
        refine (ref_first' HP7.out.ref HP7.out.len (by omega) ask true).mono ?_
        rintro e w8 ⟨rfl, rfl⟩
        rw [E2.out]
        go_wp2_with fail
        refine (len_row _ _ _ HP7.out.size).mono ?_
        rintro e w9 ⟨rfl, rfl⟩
        go_wp2_with fail
        refine (count_row _ _ _ HP7.out.row.count).mono ?_
        rintro e w9 ⟨rfl, rfl⟩
        go_wp2_with fail
        refine (ref_count' HP7.out.ref HP7.out.len (by omega)).mono ?_
        rintro e w9 ⟨rfl, rfl⟩
        go_wp2_with fail
        refine (row_has HP7.out.row ask).mono ?_
        rintro e w9 ⟨rfl, rfl⟩
        go_wp2_with fail
        refine (ref_has' HP7.out.ref HP7.out.len (by omega) ask).mono ?_
        rintro e w9 ⟨rfl, rfl⟩
        go_wp2
        go_roundw
        case rel => exact ⟨k + 1, p', wb', g, cap, _, by omega, by omega, by go_num, rfl, rfl, HP7.out⟩
        case measure => simp [intOf]; omega
      have b0 : (q == 0) = false := beq_eq_false_iff_ne.2 hq0
      have b1 : (q == 1) = false := beq_eq_false_iff_ne.2 hq1
      have b2 : (q == 2) = false := beq_eq_false_iff_ne.2 hq2
      have b3 : (q == 3) = false := beq_eq_false_iff_ne.2 hq3
      clear hq0 hq1 hq2 hq3
      go_wp2_with fail
      obtain ⟨x1, o1, e1⟩ := firstE_form (Bt.first (l) ask.toNat false)
      obtain ⟨x2, o2, e2⟩ := firstE_form (Bt.first (l) ask.toNat true)
      have E1 := Lib.hid e1
      have E2 := Lib.hid e2
      clear e1 e2
      refine (row_free' HP.out.row (HP.out.tab HT.out hpos) ask).mono ?_
      rintro e w5 ⟨rfl, hc5⟩
      rw [E1.out]
      have HP5 := Lib.hid (HP.out.still hc5)
      clear hc5
      go_wp2_with fail
      refine (ref_first' HP5.out.ref HP5.out.len (by omega) ask false).mono ?_
      rintro e w6 ⟨rfl, rfl⟩
      rw [E1.out]
      go_wp2_with fail
      refine (row_next' HP5.out.row (HP5.out.tab HT.out hpos) ask).mono ?_
      rintro e w7 ⟨rfl, hc7⟩
      rw [E2.out]
      have HP7 := Lib.hid (HP5.out.still hc7)
      clear hc7
      go_wp2_with fail
      refine (ref_first' HP7.out.ref HP7.out.len (by omega) ask true).mono ?_
      rintro e w8 ⟨rfl, rfl⟩
      rw [E2.out]
      go_wp2_with fail
      refine (len_row _ _ _ HP7.out.size).mono ?_
      rintro e w9 ⟨rfl, rfl⟩
      go_wp2_with fail
      refine (count_row _ _ _ HP7.out.row.count).mono ?_
      rintro e w9 ⟨rfl, rfl⟩
      go_wp2_with fail
      refine (ref_count' HP7.out.ref HP7.out.len (by omega)).mono ?_
      rintro e w9 ⟨rfl, rfl⟩
      go_wp2_with fail
      refine (row_has HP7.out.row ask).mono ?_
      rintro e w9 ⟨rfl, rfl⟩
      go_wp2_with fail
      refine (ref_has' HP7.out.ref HP7.out.len (by omega) ask).mono ?_
      rintro e w9 ⟨rfl, rfl⟩
      go_wp2
      go_roundw
      case rel => exact ⟨k + 1, p, wb, g, cap, _, by omega, by omega, by go_num, rfl, rfl, HP7.out⟩
      case measure => simp [intOf]; omega
    · have hend : ¬ k < len ∨ ¬ k < 60 := by omega
      have HB := Lib.hid (show Below w.heap.size w wr ∧ w.heap.size ≤ wr.heap.size ∧ TabAt 0 Lib.deBruijn64tab wr from ⟨HP.out.below, HP.out.hB, HP.out.tab HT.out hpos⟩)
      clear HP hlt
      by_cases hl : k < len
      · have h60 : ¬ k < 60 := by omega
        clear hend
        go_wp2_with (go_at_call 9; refine (awake04 _ HB.out.2.2).mono ?_; rintro e w9 ⟨rfl, hb9⟩)
        go_ret
        exact ⟨rfl, HB.out.1.trans (hb9.mono HB.out.2.1)⟩
      · clear hend
        go_wp2_with (go_at_call 9; refine (awake04 _ HB.out.2.2).mono ?_; rintro e w9 ⟨rfl, hb9⟩)
        go_ret
        exact ⟨rfl, HB.out.1.trans (hb9.mono HB.out.2.1)⟩
end Go.Proofs.YtliamjhjdoakcaaDoor
