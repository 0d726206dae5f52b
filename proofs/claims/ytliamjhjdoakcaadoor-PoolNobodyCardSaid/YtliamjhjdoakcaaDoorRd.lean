/- bits.Row: New and Fork, by their contracts. -/
import Derived.Test.YtliamjhjdoakcaaDoorRc
import Derived.Deep.OwnRows
import Derived.Deep.RegionHeld3
namespace Go.Proofs.YtliamjhjdoakcaaDoor
open Go Go.RowKit Go.Shelf
set_option linter.unusedVariables false
set_option linter.unusedSimpArgs false

theorem info67 : (Tryd.prog.info? 67).map (fun i => (i.zero, i.size, i.bytes)) = some (some (.int .u64 0), 1, 8) := by kernel_rfl
theorem sizeOf67 : ∀ w, (Go.sizeOf 67).run Tryd.prog w = .ok 1 w := fun w => by kernel_rfl

theorem new_bad (n : Int) (w : World) (h : n < 1 ∨ 65536 < n) :
    Calls Tryd.prog 8 #[.int .i64 n] w fun e w' => e = .returned (.tuple #[.pointer none, .int .i64 2]) ∧ w = w' := by
  by_cases h1 : n < 1
  · go_enter Tryd.func8, Tryd.ntmps8
    go_wp2
    go_ret2
    exact ⟨rfl, rfl⟩
  · have h2 : 65536 < n := by omega
    clear h
    go_enter Tryd.func8, Tryd.ntmps8
    go_wp2
    go_ret2
    exact ⟨rfl, rfl⟩

theorem map_replicate (n : Nat) (v : Value) : (madeCells #[v] n).toList = List.replicate n v := toList_madeCells_one v n

theorem IsRow.box {w : World} {g cap : Nat} {l : List Bool} {ws : List Nat} (hw : Bt.Words l ws) (h1 : 1 ≤ l.length) (h2 : l.length ≤ 65536)
    (ho : w.ownsRow 0 67 1 (.slice (some ⟨g, 0, none⟩) ws.length cap) ws.length (ws.map fun x : Nat => Value.int .u64 (x : Int))) :
    IsRow (w.alloc (.cells #[.int .i64 l.length, .int .i64 (l.count true), .slice (some ⟨g, 0, none⟩) ws.length cap] 78)) w.heap.size g l := by
  have hlt : g < w.heap.size := own_lt ho rfl
  exact ⟨ws, cap, hw, h1, h2, by omega, heap_alloc_new w _, ho.alloc _⟩

set_option maxHeartbeats 400000 in
theorem new_ok (n : Nat) (w : World) (h1 : 1 ≤ n) (h2 : n ≤ 65536) :
    Calls Tryd.prog 8 #[.int .i64 n] w fun e w' => ∃ p wb, e = .returned (.tuple #[.pointer (some ⟨p, 0, none⟩), .int .i64 0]) ∧ IsRow w' p wb (List.replicate n false) ∧ w.heap.size ≤ p ∧ w.heap.size ≤ wb ∧ Below w.heap.size w w' := by
  obtain ⟨i0, hi, hz0, hz1, hz2⟩ := info_parts info67
  have hmk := run_make_row' (P := Tryd.prog) 76 67 (.int .u64 0) 8 Tryd.underlying76 info67 rfl .i64 .i64 ((n + 63) / 64) (by omega) (by omega)
  have ec : (((n + 63) / 64 : Nat) : Int) = ((n : Int) + 64 - 1) / 64 := by omega
  rw [ec] at hmk
  go_enter Tryd.func8, Tryd.ntmps8
  go_wp2
  go_ret2
  have hw := Bt.Words.new n
  have ho : (w.alloc (.cells (madeCells #[.int .u64 0] ((n + 63) / 64)) 67)).ownsRow 0 67 1 (.slice (some ⟨w.heap.size, 0, none⟩) ((n + 63) / 64) ((n + 63) / 64)) ((n + 63) / 64) ((List.replicate ((n + 63) / 64) 0).map fun x : Nat => Value.int .u64 (x : Int)) := by
    have := World.ownsRow_lit (base := 0) (e := 67) (size := 1) w (madeCells #[Value.int .u64 0] ((n + 63) / 64)) ((n + 63) / 64) (Nat.zero_le _) (by unfold maxLen; omega) (by simp [size_madeCells])
    rw [map_replicate] at this
    simpa using this
  have hr := IsRow.box (cap := (n + 63) / 64) hw (by simpa using h1) (by simpa using h2) (by simpa using ho)
  have e0 : (List.replicate n false).count true = 0 := by simp [List.count_replicate]
  rw [e0] at hr
  refine ⟨_, _, rfl, by simpa using hr, by omega, Nat.le_refl _, ((Below.refl _ _).alloc (Nat.le_refl _) _).alloc (by simp) _⟩

theorem fork_nil (w : World) : Calls Tryd.prog 20 #[.pointer none] w fun e w' => e = .returned (.pointer none) ∧ w = w' := by
  go_enter Tryd.func20, Tryd.ntmps20
  go_wp2_with (first | (go_at_call 15; refine (len_nil _).mono ?_; rintro e w' ⟨rfl, rfl⟩))
  go_ret
  exact ⟨rfl, rfl⟩

theorem clone_words {w : World} {g n cap : Nat} {ws : List Nat} (hl : ws.length = n) (hn : n ≤ 1024) (hc : ∀ k, k < n → w.cell? ⟨g, k, none⟩ = some (.int .u64 (ws.getD k 0 : Nat))) :
    Calls Tryd.prog 45 #[.slice (some ⟨g, 0, none⟩) n cap] w fun e w' => ∃ g' cap', e = .returned (.slice (some ⟨g', 0, none⟩) n cap') ∧
      w'.ownsRow 0 67 1 (.slice (some ⟨g', 0, none⟩) n cap') n (ws.map fun x : Nat => Value.int .u64 (x : Int)) ∧ w.heap.size ≤ g' ∧ Below w.heap.size w w' := by
  obtain ⟨i0, hi, hz0, hz1, hz2⟩ := info_parts info67
  refine (Tryd.slices_Clone i0 (.int .u64 0) 1 8 hi hz0 hz1 hz2 rfl (by decide) sizeOf67 g 0 n cap (ws.map fun x : Nat => Value.int .u64 (x : Int)) w (by simp [hl]) (by unfold maxLen; omega) (by omega) ?_ ?_).mono ?_
  · intro j u hu
    have hj : j < ws.length := by have := (List.getElem?_eq_some_iff.1 hu).1; simpa using this
    have := hc j (by omega)
    simp only [List.getElem?_map, List.getElem?_eq_getElem hj, Option.map_some, Option.some.injEq] at hu
    subst hu
    simpa [List.getD_eq_getElem?_getD, List.getElem?_eq_getElem hj] using this
  · intro u hu; simp only [List.mem_map] at hu; obtain ⟨x, _, rfl⟩ := hu; rfl
  · rintro e w' ⟨v', rfl, ho, hne, hb⟩
    obtain ⟨h1, h2⟩ := ho
    rcases h2 with ⟨rfl, _⟩ | ⟨g', cap', cur, rfl, hg, hh, h3, h4, h5, h6⟩
    · exact absurd rfl hne
    · exact ⟨g', cap', rfl, ⟨h1, .inr ⟨g', cap', cur, rfl, Nat.zero_le _, hh, h3, h4, h5, h6⟩⟩, hg, hb⟩

theorem bcell {W w1 : World} (hb : Below W.heap.size W w1) : (∀ b o, b < W.heap.size → w1.cell? ⟨b, o, none⟩ = W.cell? ⟨b, o, none⟩) ∧ (∀ b o, b < W.heap.size → w1.frozen? ⟨b, o, none⟩ = W.frozen? ⟨b, o, none⟩) :=
  ⟨fun b o h => hb.cell (p := ⟨b, o, none⟩) h, fun b o h => hb.frozen (p := ⟨b, o, none⟩) h⟩

def ForkP (w : World) (l : List Bool) (e : Ending) (w' : World) : Prop :=
  ∃ p wb, e = .returned (.pointer (some ⟨p, 0, none⟩)) ∧ IsRow w' p wb l ∧ w.heap.size ≤ p ∧ w.heap.size ≤ wb ∧ Below w.heap.size w w'

set_option maxHeartbeats 1000000 in
theorem row_fork {w : World} {p wb : Nat} {l : List Bool} (h : IsRow w p wb l) : Calls Tryd.prog 20 #[.pointer (some ⟨p, 0, none⟩)] w (ForkP w l) := by
  have hs := h.size
  have hk := h.count
  have hlt := h.lt.1
  obtain ⟨ws, cap, hw, h1, h2, h3, h4, h5⟩ := h
  have hlen := hw.len
  have h2c : w.cell? ⟨p, 2, none⟩ = some (.slice (some ⟨wb, 0, none⟩) ws.length cap) := heap_cell h4 rfl
  have hn0 : ((l.length : Int) == 0) = false := beq_eq_false_iff_ne.2 (by omega)
  have hcw : ∀ k, k < ws.length → w.drew.cell? ⟨wb, k, none⟩ = some (.int .u64 (ws.getD k 0 : Nat)) := fun k hk => own_word h5 hk
  have Hcw := Lib.hid hcw
  have hwl : ws.length ≤ 1024 := by omega
  clear h4 h5 hcw hlen
  go_enter Tryd.func20, Tryd.ntmps20
  go_wp2_with (first | (go_at_call 15; refine (len_row _ _ _ hs).mono ?_; rintro e w' ⟨rfl, rfl⟩))
  go_region_held3 (fun w' => w'.cell? ⟨p, 0, none⟩ = some (.int .i64 l.length) ∧ w'.cell? ⟨p, 1, none⟩ = some (.int .i64 (l.count true)) ∧ w'.cell? ⟨p, 2, none⟩ = some (.slice (some ⟨wb, 0, none⟩) ws.length cap)) (first | exact ⟨hs, hk, h2c⟩ | exact ⟨hc0, hc1, hc2⟩ | exact ⟨(World.cell?_alloc_past _ _ _ hp1).trans hc0, (World.cell?_alloc_past _ _ _ hp1).trans hc1, (World.cell?_alloc_past _ _ _ hp1).trans hc2⟩)
    (first | (go_at_call 45; refine (clone_words (ws := ws) rfl hwl Hcw.out).mono ?_; rintro e w1 ⟨g', cap', rfl, ho, hg, hb⟩; have hp1 : p < w1.heap.size := Nat.lt_of_lt_of_le hlt hb.size; have hc0 := (hb.cell (p := ⟨p, 0, none⟩) hlt).trans hs; have hc1 := (hb.cell (p := ⟨p, 1, none⟩) hlt).trans hk; have hc2 := (hb.cell (p := ⟨p, 2, none⟩) hlt).trans h2c))
  go_wp2
  go_ret
  have hr := IsRow.box hw h1 h2 ho
  exact ⟨_, _, rfl, hr, hb.size, hg, (Chg.below (S := fun _ => False) ((Chg.drew w).trans ((Chg.of_below hb _).allocs _)) (Nat.le_refl _) (fun i h => h.elim))⟩
end Go.Proofs.YtliamjhjdoakcaaDoor
