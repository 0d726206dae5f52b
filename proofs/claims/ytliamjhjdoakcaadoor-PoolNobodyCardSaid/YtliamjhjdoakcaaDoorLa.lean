/- The references' lists of bools, by their contracts. -/
import Derived.Test.YtliamjhjdoakcaaDoorRd
namespace Go.Proofs.YtliamjhjdoakcaaDoor
open Go Go.RowKit Go.Shelf
set_option linter.unusedVariables false
set_option linter.unusedSimpArgs false

theorem info4 : (Tryd.prog.info? 4).map (fun i => (i.zero, i.size, i.bytes)) = some (some (.bool false), 1, 1) := by kernel_rfl

/-- A list of bools of one's own, at block g. -/
def IsBools (w : World) (g cap : Nat) (l : List Bool) : Prop := w.ownsRow 0 4 1 (.slice (some ⟨g, 0, none⟩) l.length cap) l.length (l.map Value.bool)
theorem IsBools.chg {w w' : World} {g cap : Nat} {l : List Bool} {S : Nat → Prop} (h : IsBools w g cap l) (hc : Chg S w w') (hg : ¬ S g) : IsBools w' g cap l :=
  hc.own h (fun k hk => by simp [Value.ownBlock] at hk; subst hk; exact hg)
theorem IsBools.lt {w : World} {g cap : Nat} {l : List Bool} (h : IsBools w g cap l) : g < w.heap.size := own_lt h rfl
theorem IsBools.cell {w : World} {g cap : Nat} {l : List Bool} (h : IsBools w g cap l) (k : Nat) (hk : k < l.length) : w.cell? ⟨g, k, none⟩ = some (.bool (l.getD k false)) := by
  rw [World.ownsRow.cellAt h k (by omega)]
  simp [List.getD_eq_getElem?_getD, List.getElem?_eq_getElem hk]

theorem ref_new (n : Nat) (w : World) (h1 : n ≤ 65536) :
    Calls Tryd.prog 16 #[.int .i64 n] w fun e w' => ∃ g, e = .returned (.slice (some ⟨g, 0, none⟩) n n) ∧ IsBools w' g n (List.replicate n false) ∧ w.heap.size ≤ g ∧ Below w.heap.size w w' := by
  have hmk := run_make_row' (P := Tryd.prog) 37 4 (.bool false) 1 Tryd.underlying37 info4 rfl .i64 .i64 n (by omega) (by omega)
  go_enter Tryd.func16, Tryd.ntmps16
  go_wp2
  go_ret
  refine ⟨_, rfl, ?_, Nat.le_refl _, (Below.refl _ _).alloc (Nat.le_refl _) _⟩
  have := World.ownsRow_lit (base := 0) (e := 4) (size := 1) w (madeCells #[Value.bool false] n) n (Nat.zero_le _) (by unfold maxLen; omega) (by simp [size_madeCells])
  rw [map_replicate] at this
  unfold IsBools
  simpa using this

def WithP (w : World) (l : List Bool) (i : Nat) (b : Bool) (e : Ending) (w' : World) : Prop :=
  ∃ g cap, e = .returned (.slice (some ⟨g, 0, none⟩) l.length cap) ∧ IsBools w' g cap (l.set i b) ∧ w.heap.size ≤ g ∧ Below w.heap.size w w'

set_option maxHeartbeats 800000 in
theorem ref_with {w : World} {g cap : Nat} {l : List Bool} (h : IsBools w g cap l) (hl : l.length ≤ 65536) (i : Nat) (hi : i < l.length) (b : Bool) :
    Calls Tryd.prog 44 #[.slice (some ⟨g, 0, none⟩) l.length cap, .int .i64 i, .bool b] w (WithP w l i b) := by
  obtain ⟨i0, hi0, hz0, hz1, hz2⟩ := info_parts info4
  have hg := h.lt
  have ho : (w.alloc (.cells #[] 4)).ownsRow w.heap.size 4 1 (.slice (some ⟨w.heap.size, 0, none⟩) 0 0) 0 [] := World.ownsRow_made w #[] 0 (Nat.le_refl _) (by decide) (by simp)
  go_enter Tryd.func44, Tryd.ntmps44
  go_wp2_with (at_builtin; refine wpList_append_own _ rfl _ _ 37 rfl w.heap.size 4 i0 (.bool false) 1 1 Tryd.underlying37 hi0 hz0 hz1 hz2 rfl (by decide) _ _ _ rfl ho ⟨g, 0, none⟩ l.length cap (l.map Value.bool) rfl ?c0 ?c1 ?c2 ?c3 ?c4 ?c5 ?_)
  case c0 => simp
  case c1 =>
    intro j u hu
    have hj : j < l.length := by have := (List.getElem?_eq_some_iff.1 hu).1; simpa using this
    rw [addr_add, World.cell?_alloc_past _ _ _ hg]
    have := h.cell j hj
    simp only [List.getElem?_map, List.getElem?_eq_getElem hj, Option.map_some, Option.some.injEq] at hu
    subst hu
    simpa [List.getD_eq_getElem?_getD, List.getElem?_eq_getElem hj] using this
  case c2 => intro u hu; simp only [List.mem_map] at hu; obtain ⟨x, _, rfl⟩ := hu; rfl
  case c3 => unfold maxLen; omega
  case c4 => omega
  case c5 => simp
  · intro v' w1 ho1 hgr hne
    obtain ⟨g', cap', rfl, hb, ho2'⟩ := own_form ho1 hne
    have ho2 : IsBools w1 g' cap' l := ho2'
    have hc := ho2.cell i hi
    have hf := World.ownsRow.frozenAt ho2' i
    have hB : Below w.heap.size w w1 := ((Below.refl _ _).alloc (Nat.le_refl _) _).grown hgr (by simp) (fun k hk => by simp [Value.ownBlock] at hk; omega)
    have Ho := Lib.hid ho2'
    clear ho1 ho2 ho2' hgr hne
    go_wp2
    go_ret
    refine ⟨g', cap', rfl, ?_, hb, hB.setCell hb _⟩
    have := (World.ownsRow.stored Ho.out i (.bool b)).1
    unfold IsBools
    simpa [List.map_set] using this
end Go.Proofs.YtliamjhjdoakcaaDoor
