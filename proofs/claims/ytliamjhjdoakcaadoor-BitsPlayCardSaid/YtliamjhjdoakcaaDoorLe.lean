/- BitsPlay, by its contract, for every number of places. -/
import Derived.Test.YtliamjhjdoakcaaDoorLd
namespace Go.Proofs.YtliamjhjdoakcaaDoor
open Go Go.RowKit Go.Shelf
set_option linter.unusedVariables false
set_option linter.unusedSimpArgs false
set_option maxHeartbeats 1000000 in
set_option maxRecDepth 100000 in
theorem play_bad (w : World) (hT : TabAt 0 Lib.deBruijn64tab w) (n : Int) (h : n < 1 ∨ 65536 < n) (A : Option Addr) (len cap0 : Nat) (ask : Int) :
    Calls Tryd.prog 4 #[.int .i64 n, .slice A len cap0, .int .i64 ask] w (TrueP w) := by
  have HT := Lib.hid hT
  clear hT
  by_cases h1 : n < 1
  · go_enter Tryd.func4, Tryd.ntmps4
    go_wp2_with (first | (go_at_call 8; refine (new_bad n w h).mono ?_; rintro e w1 ⟨rfl, rfl⟩) | (go_at_call 9; refine (awake04 _ HT.out).mono ?_; rintro e w9 ⟨rfl, hb9⟩))
    go_ret
    exact ⟨rfl, hb9⟩
  · have h2 : 65536 < n := by omega
    go_enter Tryd.func4, Tryd.ntmps4
    go_wp2_with (first | (go_at_call 8; refine (new_bad n w h).mono ?_; rintro e w1 ⟨rfl, rfl⟩) | (go_at_call 9; refine (awake04 _ HT.out).mono ?_; rintro e w9 ⟨rfl, hb9⟩))
    go_ret
    exact ⟨rfl, hb9⟩
set_option maxHeartbeats 1000000 in
set_option maxRecDepth 100000 in
theorem play_big (w : World) (hT : TabAt 0 Lib.deBruijn64tab w) (n : Nat) (h1 : 300 < n) (h2 : n ≤ 65536) (A : Option Addr) (len cap0 : Nat) (ask : Int) :
    Calls Tryd.prog 4 #[.int .i64 n, .slice A len cap0, .int .i64 ask] w (TrueP w) := by
  have HT := Lib.hid hT
  clear hT
  go_enter Tryd.func4, Tryd.ntmps4
  go_wp2_with fail
  refine (new_ok n w (by omega) h2).mono ?_
  rintro e w1 ⟨p, wb, rfl, hr, hp, hwb, hB⟩
  have hs : w1.cell? ⟨p, 0, none⟩ = some (.int .i64 n) := by have := hr.size; simpa using this
  have hc : w1.cell? ⟨p, 1, none⟩ = some (.int .i64 0) := by have := hr.count; simpa [List.count_replicate] using this
  have HT1 := Lib.hid (tab_below HT.out hB)
  have HB := Lib.hid hB
  clear hr hB
  go_wp2_with (first | (go_at_call 15; refine (len_row _ _ _ hs).mono ?_; rintro e w2 ⟨rfl, rfl⟩) | (go_at_call 14; refine (count_row _ _ _ hc).mono ?_; rintro e w2 ⟨rfl, rfl⟩) | (go_at_call 9; refine (awake04 _ HT1.out).mono ?_; rintro e w9 ⟨rfl, hb9⟩))
  go_ret
  exact ⟨rfl, HB.out.trans (hb9.mono HB.out.size)⟩

theorem play_all (w : World) (hT : TabAt 0 Lib.deBruijn64tab w) (n : Int) (A : Option Addr) (len cap0 : Nat) (hlen : len ≤ 9223372036854775807) (kd ar : Nat → Int) (hA : Acts w w.heap.size A len kd ar) (ask : Int) :
    Calls Tryd.prog 4 #[.int .i64 n, .slice A len cap0, .int .i64 ask] w (TrueP w) := by
  by_cases h : n < 1 ∨ 65536 < n
  · exact play_bad w hT n h A len cap0 ask
  · obtain ⟨k, rfl⟩ := Int.eq_ofNat_of_zero_le (show 0 ≤ n by omega)
    by_cases h3 : 300 < k
    · exact play_big w hT k h3 (by omega) A len cap0 ask
    · exact play_loop w hT k (by omega) (by omega) A len cap0 hlen kd ar hA ask
end Go.Proofs.YtliamjhjdoakcaaDoor
