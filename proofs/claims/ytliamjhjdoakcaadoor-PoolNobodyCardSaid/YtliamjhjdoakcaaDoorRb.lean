/- bits.Row: the search for the first place, by its contract. -/
import Derived.Test.YtliamjhjdoakcaaDoorRa
import Derived.BigRegion
namespace Go.Proofs.YtliamjhjdoakcaaDoor
open Go Go.RowKit Go.Shelf
set_option linter.unusedVariables false
set_option linter.unusedSimpArgs false
theorem told_yes (i : Int) (w : World) : Calls Tryd.prog 42 #[.int .i64 i, .bool true] w fun e w' => e = .returned (.tuple #[.int .i64 i, .bool true]) ∧ w = w' := by
  go_enter Tryd.func42, Tryd.ntmps42
  go_wp2
  go_ret2
  exact ⟨rfl, rfl⟩
theorem told_no (i : Int) (w : World) : Calls Tryd.prog 42 #[.int .i64 i, .bool false] w fun e w' => e = .returned (.tuple #[.int .i64 0, .bool false]) ∧ w = w' := by
  go_enter Tryd.func42, Tryd.ntmps42
  go_wp2
  go_ret2
  exact ⟨rfl, rfl⟩

theorem tz_core (x k idx : Nat) (w : World) (hx0 : ((x : Int) == 0) = false)
    (key : IntKind.u64.wrap (bits BinOp.and IntKind.u64 (x : Int) (IntKind.u64.wrap (-(x : Int))) * 285870213051353865) / 288230376151711744 = (idx : Int))
    (hi : idx < 64) (hk : k < 64) (hcell : w.cell? ⟨0, idx, none⟩ = some (.int .u8 k)) :
    Calls Tryd.prog 48 #[.int .u64 x] w fun e w' => e = .returned (.int .i64 k) ∧ w = w' := by
  go_enter Tryd.func48, Tryd.ntmps48
  go_wp2_with (simp only [key])
  go_ret
  exact ⟨rfl, rfl⟩
/-- math/bits.TrailingZeros64, of a number that is not 0. -/
theorem tz (x : Nat) (hx : x < 18446744073709551616) (hx0 : x ≠ 0) (w : World) (hT : TabAt 0 Lib.deBruijn64tab w) :
    Calls Tryd.prog 48 #[.int .u64 x] w fun e w' => e = .returned (.int .i64 (Lib.ctz 64 x)) ∧ w = w' := by
  obtain ⟨hlow, hk⟩ := Lib.lowest_bit 64 x hx0 hx
  obtain ⟨hi, htab⟩ := Lib.deBruijn64_at _ hk
  have hcell := hT _ hi
  rw [htab] at hcell
  exact tz_core x _ _ w (by simp; omega) (tz64_key x _ hx hx0 hlow) hi hk hcell


def SeekR (l : List Bool) (f : Nat) (b : Bool) (n : Int) (e : Ending) : Prop :=
  (∃ i : Nat, e = .returned (.tuple #[.int .i64 i, .bool (decide ((i : Int) < n))]) ∧ f ≤ i ∧ l.getD i false = b ∧ ∀ j, f ≤ j → j < i → l.getD j false ≠ b) ∨
  (e = .returned (.tuple #[.int .i64 0, .bool false]) ∧ ∀ j, f ≤ j → j < l.length → l.getD j false ≠ b)
def SeekP (l : List Bool) (f : Nat) (b : Bool) (n : Int) (w : World) (e : Ending) (w' : World) : Prop := SeekR l f b n e ∧ ∃ nq, w' = w.drewN nq

def Turn (turn : Nat) (b : Bool) : Prop := (turn = 0 ∧ b = true) ∨ (turn = 18446744073709551615 ∧ b = false)

theorem xor_word {l : List Bool} {ws : List Nat} (h : Bt.Words l ws) (k turn : Nat) (b : Bool) (ht : Turn turn b) :
    ∃ x : Nat, bits BinOp.xor IntKind.u64 ((ws.getD k 0 : Nat) : Int) (turn : Int) = (x : Int) ∧ x < 18446744073709551616 ∧ ∀ t, t < 64 → x.testBit t = (l.getD (64 * k + t) false == b) := by
  have hlt := h.lt k
  have hb : ∀ t, t < 64 → (ws.getD k 0).testBit t = l.getD (64 * k + t) false := fun t ht => by
    have := h.bit (64 * k + t)
    unfold Bt.bitOf at this
    rw [← this, show (64 * k + t) / 64 = k by omega, show (64 * k + t) % 64 = t by omega]
  unfold Bt.W64 at hlt
  rcases ht with ⟨rfl, rfl⟩ | ⟨rfl, rfl⟩
  · refine ⟨ws.getD k 0, ?_, hlt, fun t ht => ?_⟩
    · rw [bits_xor_u64_nat _ 0 hlt (by decide), Nat.xor_zero]
    · rw [hb t ht]; simp
  · refine ⟨ws.getD k 0 ^^^ 18446744073709551615, bits_xor_u64_nat _ _ hlt (by decide), ?_, fun t ht => ?_⟩
    · exact Nat.xor_lt_two_pow (n := 64) hlt (by decide)
    · rw [Nat.testBit_xor, hb t ht, show (18446744073709551615 : Nat) = 2 ^ 64 - 1 from rfl, Nat.testBit_two_pow_sub_one]
      simp [ht]

theorem mask_word (x f : Nat) (hx : x < 18446744073709551616) :
    ∃ y : Nat, bits BinOp.and IntKind.u64 (x : Int) (IntKind.u64.wrap (18446744073709551615 * 2 ^ (f % 64))) = (y : Int) ∧ y < 18446744073709551616 ∧ ∀ t, t < 64 → y.testBit t = (decide (f % 64 ≤ t) && x.testBit t) := by
  have e : IntKind.u64.wrap (18446744073709551615 * 2 ^ (f % 64)) = (((Bt.W64 - 1) * 2 ^ (f % 64) % Bt.W64 : Nat) : Int) := by
    rw [IntKind.wrap_u64]; unfold Bt.W64; simp
  have h2 : (Bt.W64 - 1) * 2 ^ (f % 64) % Bt.W64 < 18446744073709551616 := Nat.mod_lt _ (by decide)
  refine ⟨x &&& ((Bt.W64 - 1) * 2 ^ (f % 64) % Bt.W64), by rw [e, bits_and_u64_nat _ _ hx h2], Nat.lt_of_le_of_lt Nat.and_le_left hx, fun t ht => ?_⟩
  rw [Nat.testBit_and, Bt.mask_bit _ _ (Nat.mod_lt _ (by decide))]
  simp [ht, Bool.and_comm]

theorem tz_named (x c : Nat) (hx : (x : Int) ≤ 18446744073709551615) (hx0 : x ≠ 0) (w : World) (hT : Hid (TabAt 0 Lib.deBruijn64tab w)) (hc : Hid (Lib.ctz 64 x = c)) :
    Calls Tryd.prog 48 #[.int .u64 x] w fun e w' => e = .returned (.int .i64 c) ∧ w = w' := by
  have := tz x (by omega) hx0 w hT.out
  rwa [hc.out] at this

/-- What the round needs of a word. -/
theorem seek_word {l : List Bool} {ws : List Nat} (h : Bt.Words l ws) (k f turn : Nat) (b : Bool) (ht : Turn turn b) (hk : f / 64 ≤ k) :
    ∃ x y : Nat, bits BinOp.xor IntKind.u64 ((ws.getD k 0 : Nat) : Int) (turn : Int) = (x : Int) ∧ (x : Int) ≤ 18446744073709551615 ∧
      (k ≠ f / 64 → Bt.wordAt l f b k x) ∧ bits BinOp.and IntKind.u64 (x : Int) (IntKind.u64.wrap (18446744073709551615 * 2 ^ (f % 64))) = (y : Int) ∧ (y : Int) ≤ 18446744073709551615 ∧ (k = f / 64 → Bt.wordAt l f b k y) := by
  obtain ⟨x, e1, hx, b1⟩ := xor_word h k turn b ht
  obtain ⟨y, e2, hy, b2⟩ := mask_word x f hx
  refine ⟨x, y, e1, by omega, fun hne => ⟨hx, fun t ht => ?_⟩, e2, by omega, fun he => ⟨hy, fun t ht => ?_⟩⟩
  · rw [b1 t ht]; simp [show f ≤ 64 * k + t by omega]
  · rw [b2 t ht, b1 t ht]
    congr 1
    simp only [decide_eq_decide]
    omega

theorem seek_done {l : List Bool} {f k c x : Nat} {b : Bool} {n : Int} {w : World} {i : Int} (hi : i = ((64 * k + c : Nat) : Int)) (hc : Hid (Lib.ctz 64 x = c)) (hw : Bt.wordAt l f b k x) (hx : x ≠ 0)
    (hprev : Hid (∀ j, f ≤ j → j < 64 * k → l.getD j false ≠ b)) (q : Nat) : SeekP l f b n w (.returned (.tuple #[.int .i64 i, .bool (decide (i < n))])) (w.drewN q) := by
  subst hi
  have h := Bt.wordAt_some hw hx hprev.out
  rw [hc.out] at h
  exact ⟨.inl ⟨64 * k + c, rfl, h⟩, q, rfl⟩
theorem seek_next {l : List Bool} {f k : Nat} {b : Bool} (hw : Bt.wordAt l f b k 0) (hprev : Hid (∀ j, f ≤ j → j < 64 * k → l.getD j false ≠ b)) : Hid (∀ j, f ≤ j → j < 64 * (k + 1) → l.getD j false ≠ b) := by
  intro j h1 h2
  by_cases h : j < 64 * k
  · exact hprev.out j h1 h
  · exact Bt.wordAt_none hw j (by omega) h2 h1

set_option maxHeartbeats 1600000 in
theorem seek_all (p wb cap m : Nat) (n : Int) (f : Nat) (ws : List Nat) (l : List Bool) (w : World) (turn : Nat) (b : Bool) (hTurn : Turn turn b) (hT : TabAt 0 Lib.deBruijn64tab w) (h0 : w.cell? ⟨p, 0, none⟩ = some (.int .i64 n)) (hn : 0 < n) (hn6 : n ≤ 65536)
    (hm2 : m ≤ 1024) (h2 : w.cell? ⟨p, 2, none⟩ = some (.slice (some ⟨wb, 0, none⟩) m cap)) (hw : Bt.Words l ws) (hwm : ws.length = m) (hnl : n = l.length) (hf : (f : Int) < n) (hcell : ∀ k, k < m → w.cell? ⟨wb, k, none⟩ = some (.int .u64 (ws.getD k 0 : Nat))) (hfp : 0 < f) :
    Calls Tryd.prog 43 #[.pointer (some ⟨p, 0, none⟩), .int .i64 f, .int .u64 turn] w (SeekP l f b n w) := by
  have HT := Lib.hid hT
  have HTurn := Lib.hid hTurn
  have Hwm := Lib.hid hwm
  have Hnl := Lib.hid hnl
  clear hT hTurn hwm hnl
  have hmn : n ≤ 64 * m ∧ f / 64 ≤ m := by have := hw.len; have := Hwm.out; have := Hnl.out; omega
  have Hcell := Lib.hid hcell
  clear hcell
  go_enter Tryd.func43, Tryd.ntmps43
  go_wp2
  go_loop [8] (fun v => ∃ k : Nat, k ≤ m ∧ f / 64 ≤ k ∧ v = .int .i64 k ∧ Hid (∀ j, f ≤ j → j < 64 * k → l.getD j false ≠ b)) (fun v => m - (intOf v).toNat)
  case atStart => exact ⟨f / 64, hmn.2, Nat.le_refl _, by simp, fun j h1 h2 => by omega⟩
  case round =>
    obtain ⟨k, hk, hkf, rfl, hprev⟩ := hrel
    by_cases hlt : k < m
    · have hc := Hcell.out k hlt
      obtain ⟨x, y, e1, hx, w1, e2, hy, w2⟩ := seek_word hw k f turn b HTurn.out hkf
      have W1 := Lib.hid w1
      have W2 := Lib.hid w2
      clear w1 w2
      generalize ws.getD k 0 = z at hc e1
      by_cases he : k = f / 64
      · obtain rfl : k = f / 64 := he
        by_cases hz : y = 0
        · obtain rfl : y = 0 := hz
          go_wp2
          go_round
          case rel => exact ⟨f / 64 + 1, by omega, by omega, by go_num, seek_next (W2.out (by first | rfl | trivial)) hprev⟩
          case measure => simp [intOf]; omega
        · obtain ⟨c, hc'⟩ : ∃ c, Lib.ctz 64 y = c := ⟨_, rfl⟩
          have hyn : ((y : Int) == 0) = false := by simp; omega
          have hc64 : c < 64 := by rw [← hc']; exact (Bt.ctz_low (x := y) (by unfold Bt.W64; omega) hz).1
          have Hc := Lib.hid hc'
          clear hc'
          go_wp2_with (go_at_call 48; refine (tz_named y c hy hz _ HT Hc).mono ?_; rintro e w' ⟨rfl, rfl⟩)
          go_quiet (fail)
          go_wp2
          go_ret2
          exact seek_done (by omega) Hc (W2.out (by first | rfl | trivial)) hz hprev _
      · have hne : ((k : Int) == (f : Int) / 64) = false := by simp; omega
        by_cases hz : x = 0
        · obtain rfl : x = 0 := hz
          clear e2
          go_wp2
          go_round
          case rel => exact ⟨k + 1, by omega, by omega, by go_num, seek_next (W1.out he) hprev⟩
          case measure => simp [intOf]; omega
        · obtain ⟨c, hc'⟩ : ∃ c, Lib.ctz 64 x = c := ⟨_, rfl⟩
          have hyn : ((x : Int) == 0) = false := by simp; omega
          have hc64 : c < 64 := by rw [← hc']; exact (Bt.ctz_low (x := x) (by unfold Bt.W64; omega) hz).1
          have Hc := Lib.hid hc'
          clear hc' e2
          go_wp2_with (go_at_call 48; refine (tz_named x c hx hz _ HT Hc).mono ?_; rintro e w' ⟨rfl, rfl⟩)
          go_quiet (fail)
          go_wp2
          go_ret2
          exact seek_done (by omega) Hc (W1.out he) hz hprev _
    · go_wp2
      go_ret2
      exact ⟨.inr ⟨rfl, fun j h1 h2 => hprev.out j h1 (by have := Hnl.out; omega)⟩, 0, rfl⟩

set_option maxHeartbeats 1600000 in
theorem seek_low (p wb cap m : Nat) (n : Int) (f0 : Int) (ws : List Nat) (l : List Bool) (w : World) (turn : Nat) (b : Bool) (hTurn : Turn turn b) (hT : TabAt 0 Lib.deBruijn64tab w) (h0 : w.cell? ⟨p, 0, none⟩ = some (.int .i64 n)) (hn : 0 < n) (hn6 : n ≤ 65536)
    (hm2 : m ≤ 1024) (h2 : w.cell? ⟨p, 2, none⟩ = some (.slice (some ⟨wb, 0, none⟩) m cap)) (hw : Bt.Words l ws) (hwm : ws.length = m) (hnl : n = l.length) (hcell : ∀ k, k < m → w.cell? ⟨wb, k, none⟩ = some (.int .u64 (ws.getD k 0 : Nat))) (hfp : f0 ≤ 0) :
    Calls Tryd.prog 43 #[.pointer (some ⟨p, 0, none⟩), .int .i64 f0, .int .u64 turn] w (SeekP l 0 b n w) := by
  have HT := Lib.hid hT
  have HTurn := Lib.hid hTurn
  have Hwm := Lib.hid hwm
  have Hnl := Lib.hid hnl
  clear hT hTurn hwm hnl
  have hmn : n ≤ 64 * m := by have := hw.len; have := Hwm.out; have := Hnl.out; omega
  have Hcell := Lib.hid hcell
  clear hcell
  go_enter Tryd.func43, Tryd.ntmps43
  go_wp2
  go_loop [8] (fun v => ∃ k : Nat, k ≤ m ∧ v = .int .i64 k ∧ Hid (∀ j, 0 ≤ j → j < 64 * k → l.getD j false ≠ b)) (fun v => m - (intOf v).toNat)
  case atStart => exact ⟨0, Nat.zero_le _, by simp, fun j h1 h2 => by omega⟩
  case round =>
    obtain ⟨k, hk, rfl, hprev⟩ := hrel
    by_cases hlt : k < m
    · have hc := Hcell.out k hlt
      obtain ⟨x, y, e1, hx, w1, e2, hy, w2⟩ := seek_word hw k 0 turn b HTurn.out (Nat.zero_le _)
      have W1 := Lib.hid w1
      have W2 := Lib.hid w2
      clear w1 w2
      generalize ws.getD k 0 = z at hc e1
      have e3 : bits BinOp.and IntKind.u64 (x : Int) 18446744073709551615 = (y : Int) := by
        rw [← e2]; congr 1
      clear e2
      by_cases he : k = 0
      · obtain rfl : k = 0 := he
        by_cases hz : y = 0
        · obtain rfl : y = 0 := hz
          go_wp2
          go_round
          case rel => exact ⟨1, by omega, by go_num, seek_next (k := 0) (W2.out (by first | rfl | trivial)) hprev⟩
          case measure => simp [intOf]; omega
        · obtain ⟨c, hc'⟩ : ∃ c, Lib.ctz 64 y = c := ⟨_, rfl⟩
          have hyn : ((y : Int) == 0) = false := by simp; omega
          have hc64 : c < 64 := by rw [← hc']; exact (Bt.ctz_low (x := y) (by unfold Bt.W64; omega) hz).1
          have Hc := Lib.hid hc'
          clear hc'
          go_wp2_with (go_at_call 48; refine (tz_named y c hy hz _ HT Hc).mono ?_; rintro e w' ⟨rfl, rfl⟩)
          go_quiet (fail)
          go_wp2
          go_ret2
          exact seek_done (k := 0) (by omega) Hc (W2.out (by first | rfl | trivial)) hz hprev _
      · have hne : ((k : Int) == 0) = false := by simp; omega
        by_cases hz : x = 0
        · obtain rfl : x = 0 := hz
          clear e3
          go_wp2
          go_round
          case rel => exact ⟨k + 1, by omega, by go_num, seek_next (W1.out (by omega)) hprev⟩
          case measure => simp [intOf]; omega
        · obtain ⟨c, hc'⟩ : ∃ c, Lib.ctz 64 x = c := ⟨_, rfl⟩
          have hyn : ((x : Int) == 0) = false := by simp; omega
          have hc64 : c < 64 := by rw [← hc']; exact (Bt.ctz_low (x := x) (by unfold Bt.W64; omega) hz).1
          have Hc := Lib.hid hc'
          clear hc' e3
          go_wp2_with (go_at_call 48; refine (tz_named x c hx hz _ HT Hc).mono ?_; rintro e w' ⟨rfl, rfl⟩)
          go_quiet (fail)
          go_wp2
          go_ret2
          exact seek_done (by omega) Hc (W1.out (by omega)) hz hprev _
    · go_wp2
      go_ret2
      exact ⟨.inr ⟨rfl, fun j h1 h2 => hprev.out j h1 (by have := Hnl.out; omega)⟩, 0, rfl⟩

def firstE : Option Nat → Ending
  | some i => .returned (.tuple #[.int .i64 i, .bool true])
  | none => .returned (.tuple #[.int .i64 0, .bool false])

theorem first_of_seekR {l : List Bool} {f : Nat} {b : Bool} {e : Ending} (h : SeekR l f b l.length e) :
    (∃ i : Nat, ∃ ok : Bool, e = .returned (.tuple #[.int .i64 i, .bool ok]) ∧ firstE (Bt.first l f b) = .returned (.tuple #[.int .i64 (if ok then (i : Int) else 0), .bool ok])) := by
  rcases h with ⟨i, rfl, h1, h2, h3⟩ | ⟨rfl, h1⟩
  · by_cases hi : i < l.length
    · refine ⟨i, true, by simp [hi], ?_⟩
      rw [Bt.first_some.2 ⟨hi, h1, h2, h3⟩]; rfl
    · refine ⟨i, false, by simp [hi], ?_⟩
      rw [Bt.first_none.2 (fun j hj hl => h3 j hj (by omega))]; rfl
  · refine ⟨0, false, rfl, ?_⟩
    rw [Bt.first_none.2 h1]; rfl

/-- The search in a row. -/
theorem row_seek {w : World} {p wb : Nat} {l : List Bool} (h : IsRow w p wb l) (hT : TabAt 0 Lib.deBruijn64tab w) (f : Int) (hf : f < l.length) (turn : Nat) (b : Bool) (ht : Turn turn b) :
    Calls Tryd.prog 43 #[.pointer (some ⟨p, 0, none⟩), .int .i64 f, .int .u64 turn] w fun e w' =>
      (∃ i : Nat, ∃ ok : Bool, e = .returned (.tuple #[.int .i64 i, .bool ok]) ∧ firstE (Bt.first l f.toNat b) = .returned (.tuple #[.int .i64 (if ok then (i : Int) else 0), .bool ok])) ∧ ∃ nq, w' = w.drewN nq := by
  have hs := h.size
  obtain ⟨ws, cap, hw, h1, h2, h3, h4, h5⟩ := h
  have hlen := hw.len
  by_cases h0 : f ≤ 0
  · refine (seek_low p wb cap ws.length l.length f ws l w turn b ht hT hs (by omega) (by omega) (by omega) (heap_cell h4 rfl) hw rfl rfl (fun k hk => own_word h5 hk) h0).mono ?_
    rintro e w' ⟨hr, hq⟩
    rw [show f.toNat = 0 by omega]
    exact ⟨first_of_seekR hr, hq⟩
  · obtain ⟨k, rfl⟩ := Int.eq_ofNat_of_zero_le (show 0 ≤ f by omega)
    refine (seek_all p wb cap ws.length l.length k ws l w turn b ht hT hs (by omega) (by omega) (by omega) (heap_cell h4 rfl) hw rfl rfl hf (fun k hk => own_word h5 hk) (by omega)).mono ?_
    rintro e w' ⟨hr, hq⟩
    exact ⟨first_of_seekR hr, hq⟩

set_option maxHeartbeats 400000 in
theorem row_free {w : World} {p wb : Nat} {l : List Bool} (h : IsRow w p wb l) (hT : TabAt 0 Lib.deBruijn64tab w) (f : Int) :
    Calls Tryd.prog 13 #[.pointer (some ⟨p, 0, none⟩), .int .i64 f] w fun e w' => e = firstE (Bt.first l f.toNat false) ∧ ∃ nq, w' = w.drewN nq := by
  have hs := h.size
  have hl := h.len
  have HT := Lib.hid hT
  have H := Lib.hid h
  clear hT h
  have hn0 : ((l.length : Int) == 0) = false := beq_eq_false_iff_ne.2 (by omega)
  by_cases hf : f < l.length
  · go_enter Tryd.func13, Tryd.ntmps13
    go_wp2_with (first | (go_at_call 15; refine (len_row _ _ _ hs).mono ?_; rintro e w' ⟨rfl, rfl⟩))
    refine (row_seek H.out HT.out f hf 18446744073709551615 false (.inr ⟨rfl, rfl⟩)).mono ?_
    rintro e w1 ⟨⟨i, ok, rfl, he⟩, nq, rfl⟩
    have HE := Lib.hid he
    clear he
    cases ok
    · go_wp2_with (go_at_call 42; refine (told_no _ _).mono ?_; rintro e w' ⟨rfl, rfl⟩)
      go_ret2
      exact ⟨by rw [HE.out]; rfl, _, rfl⟩
    · go_wp2_with (go_at_call 42; refine (told_yes _ _).mono ?_; rintro e w' ⟨rfl, rfl⟩)
      go_ret2
      exact ⟨by rw [HE.out]; rfl, _, rfl⟩
  · have hfin : Bt.first l f.toNat false = none := Bt.first_none.2 (fun j h1 h2 => by exfalso; omega)
    have Hfin := Lib.hid hfin
    clear hfin
    go_enter Tryd.func13, Tryd.ntmps13
    go_wp2_with (first | (go_at_call 15; refine (len_row _ _ _ hs).mono ?_; rintro e w' ⟨rfl, rfl⟩))
    go_ret2
    refine ⟨?_, 0, rfl⟩
    rw [Hfin.out]; rfl

set_option maxHeartbeats 400000 in
theorem row_next {w : World} {p wb : Nat} {l : List Bool} (h : IsRow w p wb l) (hT : TabAt 0 Lib.deBruijn64tab w) (f : Int) :
    Calls Tryd.prog 11 #[.pointer (some ⟨p, 0, none⟩), .int .i64 f] w fun e w' => e = firstE (Bt.first l f.toNat true) ∧ ∃ nq, w' = w.drewN nq := by
  have hs := h.size
  have hl := h.len
  have HT := Lib.hid hT
  have H := Lib.hid h
  clear hT h
  have hn0 : ((l.length : Int) == 0) = false := beq_eq_false_iff_ne.2 (by omega)
  by_cases hf : f < l.length
  · go_enter Tryd.func11, Tryd.ntmps11
    go_wp2_with (first | (go_at_call 15; refine (len_row _ _ _ hs).mono ?_; rintro e w' ⟨rfl, rfl⟩))
    refine (row_seek H.out HT.out f hf 0 true (.inl ⟨rfl, rfl⟩)).mono ?_
    rintro e w1 ⟨⟨i, ok, rfl, he⟩, nq, rfl⟩
    have HE := Lib.hid he
    clear he
    cases ok
    · go_wp2_with (go_at_call 42; refine (told_no _ _).mono ?_; rintro e w' ⟨rfl, rfl⟩)
      go_ret2
      exact ⟨by rw [HE.out]; rfl, _, rfl⟩
    · go_wp2_with (go_at_call 42; refine (told_yes _ _).mono ?_; rintro e w' ⟨rfl, rfl⟩)
      go_ret2
      exact ⟨by rw [HE.out]; rfl, _, rfl⟩
  · have hfin : Bt.first l f.toNat true = none := Bt.first_none.2 (fun j h1 h2 => by exfalso; omega)
    have Hfin := Lib.hid hfin
    clear hfin
    go_enter Tryd.func11, Tryd.ntmps11
    go_wp2_with (first | (go_at_call 15; refine (len_row _ _ _ hs).mono ?_; rintro e w' ⟨rfl, rfl⟩))
    go_ret2
    refine ⟨?_, 0, rfl⟩
    rw [Hfin.out]; rfl
end Go.Proofs.YtliamjhjdoakcaaDoor
