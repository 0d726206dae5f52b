/- The span of a kid, and a key's way, by their contracts. -/
import Derived.Test.YtekoibglogoaaaaCf
namespace Go.Proofs.Ytekoibglogoaaaa
open Go Go.RowKit Go.Shelf
set_option linter.unusedVariables false
set_option linter.unusedSimpArgs false

/-- The span of a kid, of all keys. -/
def spanAt (l : List K) (i : Nat) : Sp := ⟨if 0 < i then l.getD (i - 1) k0 else k0, if i < l.length then l.getD i k0 else k0, decide (i = l.length)⟩
def spanR (l : List K) (at_ : Int) : Sp × Bool := if at_ < 0 ∨ (l.length : Int) < at_ then (zeroSp, false) else if emptySp (spanAt l at_.toNat) then (zeroSp, false) else (spanAt l at_.toNat, true)
def SpanP (l : List K) (at_ : Int) (w : World) (e : Ending) (w' : World) : Prop := e = .returned (.tuple #[(spanR l at_).1.v, .bool (spanR l at_).2]) ∧ Still w w'
theorem alloc3_at (w : World) (a b c : Obj) : (((w.alloc a).alloc b).alloc c).heap[w.heap.size]? = some a ∧ (((w.alloc a).alloc b).alloc c).heap[w.heap.size + 1]? = some b ∧ (((w.alloc a).alloc b).alloc c).heap[w.heap.size + 1 + 1]? = some c := by
  obtain ⟨h1, h2, h3, _⟩ := alloc4_at w a b c c
  obtain ⟨g1, g2⟩ := alloc2_at w a b
  have s1 : ((w.alloc a).alloc b).heap.size = w.heap.size + 1 + 1 := by rw [size_al, size_al]
  have h3 := heap_alloc_new ((w.alloc a).alloc b) c
  rw [s1] at h3
  have hc := (Chg.alloc (S := fun _ => False) ((w.alloc a).alloc b) c)
  exact ⟨hc.heap g1 id, hc.heap g2 id, h3⟩
theorem still3 (w : World) (a b c : Obj) : Still w (((w.alloc a).alloc b).alloc c) := ((Chg.alloc w a).allocs b).allocs c
theorem spanAt_hi (l : List K) (i : Nat) (h : (spanAt l i).top = true) : (spanAt l i).hi = k0 := by
  unfold spanAt at *
  simp only [decide_eq_true_eq] at h
  simp [h]

set_option maxRecDepth 100000 in
theorem fspan_out {w : World} {A : Option Addr} {c n : Nat} (at_ : Int) (h : at_ < 0 ∨ (n : Int) < at_) : Calls Try.prog 16 #[.slice A n c, .int .i64 at_, allSp.v] w fun e w' => e = .returned (.tuple #[zeroSp.v, .bool false]) ∧ Still w w' := by
  unfold allSp zeroSp Sp.v
  simp only
  rcases (show at_ < 0 ∨ (¬ at_ < 0 ∧ (n : Int) < at_) by omega) with h1 | ⟨h1, h2⟩
  all_goals
    clear h
    go_enter Try.func16, Try.ntmps16
    go_wp2
    refine bodyPost_ret (v := .tuple #[.agg #[.string ⟨#[]⟩, .string ⟨#[]⟩, .bool false], .bool false]) (by simp [results, Try.results16, go_sem, *]) rfl ?_
    exact ⟨rfl, (Chg.alloc w _).allocs _⟩

set_option maxRecDepth 100000 in
set_option maxHeartbeats 1000000 in
theorem fspan_a {w : World} (A : Option Addr) (b off c n j : Nat) (lo hi : K) (hc0 : w.cell? ⟨b, off + j, none⟩ = some (.string lo.1)) (hd0 : w.cell? ⟨b, off + (j + 1), none⟩ = some (.string hi.1)) (hn : j + 1 < n) (hlen : n ≤ 9223372036854775807) (hnc : n ≤ c) (hc2 : c ≤ 9223372036854775807) :
    Calls Try.prog 16 #[.slice (some ⟨b, off, none⟩) n c, .int .i64 ((j : Int) + 1), allSp.v] w fun e w' => e = .returned (.tuple #[(if emptySp ⟨lo, hi, false⟩ then zeroSp else ⟨lo, hi, false⟩).v, .bool (!emptySp ⟨lo, hi, false⟩)]) ∧ Still w w' := by
  have HM := Lib.hid (meet_all ⟨lo, hi, false⟩ (fun h => by simp at h))
  unfold MeetP at HM
  have HC := fun o1 o2 o3 => (still3 w o1 o2 o3).cell hc0 id
  clear hc0
  have HD := fun o1 o2 o3 => (still3 w o1 o2 o3).cell hd0 id
  clear hd0
  have t0 : (((j : Int) + 1) == (n : Int)) = false := beq_eq_false_iff_ne.2 (by omega)
  have t1 : ((j : Int) + 1) ≤ (n : Int) := by omega
  have t2 : ((j : Int) + 1) < (n : Int) := by omega
  clear hn
  generalize emptySp ⟨lo, hi, false⟩ = g at *
  unfold allSp zeroSp Sp.v at *
  simp only at *
  go_enter Try.func16, Try.ntmps16
  go_wp2_with fail
  refine (HM.out _).mono ?_
  rintro e w1 ⟨rfl, hs⟩
  have HW := Lib.hid ((still3 w _ _ _).trans hs)
  obtain ⟨h1, h2, h3⟩ := alloc3_at w (.cells #[.string k0.1, .string k0.1, .bool true] 37) (.cells #[.string ⟨#[]⟩, .string ⟨#[]⟩, .bool false] 37) (.cells #[.string lo.1, .string hi.1, .bool false] 37)
  have g3 := hs.heap h2 id
  have q0 := heap_cell (j := 0) g3 rfl
  have q1 := heap_cell (j := 1) g3 rfl
  have q2 := heap_cell (j := 2) g3 rfl
  have f0 := heap_free (j := 0) g3
  have f1 := heap_free (j := 1) g3
  have f2 := heap_free (j := 2) g3
  clear h1 h2 h3 g3 hs
  cases g with
  | true =>
    go_wp2
    refine bodyPost_ret (v := .tuple #[.agg #[.string k0.1, .string k0.1, .bool false], .bool false]) (by simp [results, Try.results16, go_sem, *]) rfl ?_
    exact ⟨rfl, set3 HW.out (by omega) _ _ _⟩
  | false =>
    go_wp2
    refine bodyPost_ret (v := .tuple #[.agg #[.string lo.1, .string hi.1, .bool false], .bool true]) (by simp [results, Try.results16, go_sem, *]) rfl ?_
    exact ⟨rfl, set3 HW.out (by omega) _ _ _⟩

set_option maxRecDepth 100000 in
set_option maxHeartbeats 1000000 in
theorem fspan_b {w : World} (A : Option Addr) (b off c n j : Nat) (lo hi : K) (hc0 : w.cell? ⟨b, off + j, none⟩ = some (.string lo.1)) (hn : j + 1 = n) (hlen : n ≤ 9223372036854775807) (hnc : n ≤ c) (hc2 : c ≤ 9223372036854775807) :
    Calls Try.prog 16 #[.slice (some ⟨b, off, none⟩) n c, .int .i64 ((j : Int) + 1), allSp.v] w fun e w' => e = .returned (.tuple #[(if emptySp ⟨lo, k0, true⟩ then zeroSp else ⟨lo, k0, true⟩).v, .bool (!emptySp ⟨lo, k0, true⟩)]) ∧ Still w w' := by
  have HM := Lib.hid (meet_all ⟨lo, k0, true⟩ (fun _ => rfl))
  unfold MeetP at HM
  have HC := fun o1 o2 o3 => (still3 w o1 o2 o3).cell hc0 id
  clear hc0
  have t0 : (((j : Int) + 1) == (n : Int)) = true := beq_iff_eq.2 (by omega)
  have t1 : ((j : Int) + 1) ≤ (n : Int) := by omega
  clear hn
  generalize emptySp ⟨lo, k0, true⟩ = g at *
  unfold allSp zeroSp Sp.v at *
  simp only at *
  go_enter Try.func16, Try.ntmps16
  go_wp2_with fail
  refine (HM.out _).mono ?_
  rintro e w1 ⟨rfl, hs⟩
  have HW := Lib.hid ((still3 w _ _ _).trans hs)
  obtain ⟨h1, h2, h3⟩ := alloc3_at w (.cells #[.string k0.1, .string k0.1, .bool true] 37) (.cells #[.string ⟨#[]⟩, .string ⟨#[]⟩, .bool false] 37) (.cells #[.string lo.1, .string k0.1, .bool true] 37)
  have g3 := hs.heap h2 id
  have q0 := heap_cell (j := 0) g3 rfl
  have q1 := heap_cell (j := 1) g3 rfl
  have q2 := heap_cell (j := 2) g3 rfl
  have f0 := heap_free (j := 0) g3
  have f1 := heap_free (j := 1) g3
  have f2 := heap_free (j := 2) g3
  clear h1 h2 h3 g3 hs
  cases g with
  | true =>
    go_wp2
    refine bodyPost_ret (v := .tuple #[.agg #[.string k0.1, .string k0.1, .bool false], .bool false]) (by simp [results, Try.results16, go_sem, *]) rfl ?_
    exact ⟨rfl, set3 HW.out (by omega) _ _ _⟩
  | false =>
    go_wp2
    refine bodyPost_ret (v := .tuple #[.agg #[.string lo.1, .string k0.1, .bool true], .bool true]) (by simp [results, Try.results16, go_sem, *]) rfl ?_
    exact ⟨rfl, set3 HW.out (by omega) _ _ _⟩

set_option maxRecDepth 100000 in
set_option maxHeartbeats 1000000 in
theorem fspan_c {w : World} (A : Option Addr) (b off c n j : Nat) (lo hi : K) (hd0 : w.cell? ⟨b, off + 0, none⟩ = some (.string hi.1)) (hn : 0 < n) (hlen : n ≤ 9223372036854775807) (hnc : n ≤ c) (hc2 : c ≤ 9223372036854775807) :
    Calls Try.prog 16 #[.slice (some ⟨b, off, none⟩) n c, .int .i64 (0 : Int), allSp.v] w fun e w' => e = .returned (.tuple #[(if emptySp ⟨k0, hi, false⟩ then zeroSp else ⟨k0, hi, false⟩).v, .bool (!emptySp ⟨k0, hi, false⟩)]) ∧ Still w w' := by
  have HM := Lib.hid (meet_all ⟨k0, hi, false⟩ (fun h => by simp at h))
  unfold MeetP at HM
  have HD := fun o1 o2 o3 => (still3 w o1 o2 o3).cell hd0 id
  simp only [Nat.add_zero] at HD
  clear hd0
  have t0 : ((0 : Int) == (n : Int)) = false := beq_eq_false_iff_ne.2 (by omega)
  have t1 : (0 : Int) ≤ (n : Int) := by omega
  have t2 : (0 : Int) < (n : Int) := by omega
  clear hn
  generalize emptySp ⟨k0, hi, false⟩ = g at *
  unfold allSp zeroSp Sp.v at *
  simp only at *
  go_enter Try.func16, Try.ntmps16
  go_wp2_with fail
  refine (HM.out _).mono ?_
  rintro e w1 ⟨rfl, hs⟩
  have HW := Lib.hid ((still3 w _ _ _).trans hs)
  obtain ⟨h1, h2, h3⟩ := alloc3_at w (.cells #[.string k0.1, .string k0.1, .bool true] 37) (.cells #[.string ⟨#[]⟩, .string ⟨#[]⟩, .bool false] 37) (.cells #[.string k0.1, .string hi.1, .bool false] 37)
  have g3 := hs.heap h2 id
  have q0 := heap_cell (j := 0) g3 rfl
  have q1 := heap_cell (j := 1) g3 rfl
  have q2 := heap_cell (j := 2) g3 rfl
  have f0 := heap_free (j := 0) g3
  have f1 := heap_free (j := 1) g3
  have f2 := heap_free (j := 2) g3
  clear h1 h2 h3 g3 hs
  cases g with
  | true =>
    go_wp2
    refine bodyPost_ret (v := .tuple #[.agg #[.string k0.1, .string k0.1, .bool false], .bool false]) (by simp [results, Try.results16, go_sem, *]) rfl ?_
    exact ⟨rfl, set3 HW.out (by omega) _ _ _⟩
  | false =>
    go_wp2
    refine bodyPost_ret (v := .tuple #[.agg #[.string k0.1, .string hi.1, .bool false], .bool true]) (by simp [results, Try.results16, go_sem, *]) rfl ?_
    exact ⟨rfl, set3 HW.out (by omega) _ _ _⟩

set_option maxRecDepth 100000 in
set_option maxHeartbeats 1000000 in
theorem fspan_d {w : World} (A : Option Addr) (b off c n j : Nat) (lo hi : K) (hn : 0 = n) (hlen : n ≤ 9223372036854775807) (hnc : n ≤ c) (hc2 : c ≤ 9223372036854775807) :
    Calls Try.prog 16 #[.slice A n c, .int .i64 (0 : Int), allSp.v] w fun e w' => e = .returned (.tuple #[(if emptySp ⟨k0, k0, true⟩ then zeroSp else ⟨k0, k0, true⟩).v, .bool (!emptySp ⟨k0, k0, true⟩)]) ∧ Still w w' := by
  have HM := Lib.hid (meet_all ⟨k0, k0, true⟩ (fun _ => rfl))
  unfold MeetP at HM
  have t0 : ((0 : Int) == (n : Int)) = true := beq_iff_eq.2 (by omega)
  have t1 : (0 : Int) ≤ (n : Int) := by omega
  clear hn
  generalize emptySp ⟨k0, k0, true⟩ = g at *
  unfold allSp zeroSp Sp.v at *
  simp only at *
  go_enter Try.func16, Try.ntmps16
  go_wp2_with fail
  refine (HM.out _).mono ?_
  rintro e w1 ⟨rfl, hs⟩
  have HW := Lib.hid ((still3 w _ _ _).trans hs)
  obtain ⟨h1, h2, h3⟩ := alloc3_at w (.cells #[.string k0.1, .string k0.1, .bool true] 37) (.cells #[.string ⟨#[]⟩, .string ⟨#[]⟩, .bool false] 37) (.cells #[.string k0.1, .string k0.1, .bool true] 37)
  have g3 := hs.heap h2 id
  have q0 := heap_cell (j := 0) g3 rfl
  have q1 := heap_cell (j := 1) g3 rfl
  have q2 := heap_cell (j := 2) g3 rfl
  have f0 := heap_free (j := 0) g3
  have f1 := heap_free (j := 1) g3
  have f2 := heap_free (j := 2) g3
  clear h1 h2 h3 g3 hs
  cases g with
  | true =>
    go_wp2
    refine bodyPost_ret (v := .tuple #[.agg #[.string k0.1, .string k0.1, .bool false], .bool false]) (by simp [results, Try.results16, go_sem, *]) rfl ?_
    exact ⟨rfl, set3 HW.out (by omega) _ _ _⟩
  | false =>
    go_wp2
    refine bodyPost_ret (v := .tuple #[.agg #[.string k0.1, .string k0.1, .bool true], .bool true]) (by simp [results, Try.results16, go_sem, *]) rfl ?_
    exact ⟨rfl, set3 HW.out (by omega) _ _ _⟩
theorem emptySp_in (s : Sp) : (!inSp s s.lo) = emptySp s := by
  unfold inSp emptySp
  rw [ke_refl]
  unfold ke
  cases s.top <;> cases kt s.lo s.hi <;> rfl

set_option maxRecDepth 100000 in
set_option maxHeartbeats 1000000 in
theorem rspan_a {w : World} (A : Option Addr) (b off c n j : Nat) (lo hi : K) (hc0 : w.cell? ⟨b, off + j, none⟩ = some (.string lo.1)) (hk : 0 < kc lo k0) (hd0 : w.cell? ⟨b, off + (j + 1), none⟩ = some (.string hi.1)) (hn : j + 1 < n) (hlen : n ≤ 9223372036854775807) (hnc : n ≤ c) (hc2 : c ≤ 9223372036854775807) :
    Calls Try.prog 10 #[.slice (some ⟨b, off, none⟩) n c, .int .i64 ((j : Int) + 1), allSp.v] w fun e w' => e = .returned (.tuple #[(if emptySp ⟨lo, hi, false⟩ then zeroSp else ⟨lo, hi, false⟩).v, .bool (!emptySp ⟨lo, hi, false⟩)]) ∧ Still w w' := by
  have HM := Lib.hid (rempty ⟨lo, hi, false⟩)
  rw [emptySp_in] at HM
  have HC := fun o1 o2 => ((Chg.alloc (S := fun _ => False) w o1).allocs o2).cell hc0 id
  have HC2 := fun o1 o2 => ((((Chg.alloc (S := fun _ => False) w o1).allocs o2)).trans (Chg.drew _)).cell hc0 id
  clear hc0
  have HD := fun o1 o2 => ((Chg.alloc (S := fun _ => False) w o1).allocs o2).cell hd0 id
  clear hd0
  have t0 : decide (((j : Int) + 1) < (n : Int)) = true := decide_eq_true (by omega)
  have t1 : ((j : Int) + 1) ≤ (n : Int) := by omega
  have t3 : decide ((0 : Int) < ((j : Int) + 1)) = true := decide_eq_true (by omega)
  have t2 : ((j : Int) + 1) < (n : Int) := by omega
  clear hn
  generalize emptySp ⟨lo, hi, false⟩ = g at *
  unfold allSp zeroSp Sp.v at *
  simp only at *
  go_enter Try.func10, Try.ntmps10
  go_wp2_with fail
  go_quiet ((go_at_call 28; exact rcompare_q lo k0 _ _))
  go_wp2_with fail
  go_quiet (fail)
  go_wp2_with fail
  refine (HM.out _).mono ?_
  rintro e w1 ⟨rfl, hs⟩
  have hq : Chg (fun k => k = w.heap.size) ((w.alloc (.cells #[.string k0.1, .string k0.1, .bool true] 37)).alloc (.cells #[.string ⟨#[]⟩, .string ⟨#[]⟩, .bool false] 37)) w1 := by
    refine Chg.trans ?_ (hs.mono (fun _ h => h.elim))
    repeat (first | exact Chg.refl _ _ | refine Chg.trans ?_ (Chg.setCell _ _ _ rfl) | refine Chg.trans ?_ (Chg.drewN _ _))
  have HW := Lib.hid (show Still w w1 from ((Chg.alloc (S := fun _ => False) w _).allocs _).then hq (fun i hi => .inr (by omega)))
  obtain ⟨h1, h2⟩ := alloc2_at w (.cells #[.string k0.1, .string k0.1, .bool true] 37) (.cells #[.string ⟨#[]⟩, .string ⟨#[]⟩, .bool false] 37)
  have g3 := hq.heap h2 (by show ¬ (w.heap.size + 1 = w.heap.size); omega)
  have q0 := heap_cell (j := 0) g3 rfl
  have q1 := heap_cell (j := 1) g3 rfl
  have q2 := heap_cell (j := 2) g3 rfl
  have f0 := heap_free (j := 0) g3
  have f1 := heap_free (j := 1) g3
  have f2 := heap_free (j := 2) g3
  have hbox : w1.heap[w.heap.size]? = some (.cells #[.string lo.1, .string hi.1, .bool false] 37 (0, 0)) := by
    refine (hs.block _ ?_ id).trans ?_
    · simp; omega
    · exact heap_set (heap_set (heap_set (h1) _) _) _
  have r0 := heap_cell (j := 0) hbox rfl
  have r1 := heap_cell (j := 1) hbox rfl
  have r2 := heap_cell (j := 2) hbox rfl
  clear h1 h2 g3 hs hq hbox
  cases g with
  | true =>
    go_wp2
    refine bodyPost_ret (v := .tuple #[.agg #[.string ⟨#[]⟩, .string ⟨#[]⟩, .bool false], .bool false]) (by simp [results, Try.results10, go_sem, *]) rfl ?_
    exact ⟨rfl, set3 HW.out (by omega) _ _ _⟩
  | false =>
    go_wp2
    refine bodyPost_ret (v := .tuple #[.agg #[.string lo.1, .string hi.1, .bool false], .bool true]) (by simp [results, Try.results10, go_sem, *]) rfl ?_
    exact ⟨rfl, set3 HW.out (by omega) _ _ _⟩

set_option maxRecDepth 100000 in
set_option maxHeartbeats 1000000 in
theorem rspan_a2 {w : World} (A : Option Addr) (b off c n j : Nat) (lo hi : K) (hc0 : w.cell? ⟨b, off + j, none⟩ = some (.string lo.1)) (hk : lo = k0) (hd0 : w.cell? ⟨b, off + (j + 1), none⟩ = some (.string hi.1)) (hn : j + 1 < n) (hlen : n ≤ 9223372036854775807) (hnc : n ≤ c) (hc2 : c ≤ 9223372036854775807) :
    Calls Try.prog 10 #[.slice (some ⟨b, off, none⟩) n c, .int .i64 ((j : Int) + 1), allSp.v] w fun e w' => e = .returned (.tuple #[(if emptySp ⟨lo, hi, false⟩ then zeroSp else ⟨lo, hi, false⟩).v, .bool (!emptySp ⟨lo, hi, false⟩)]) ∧ Still w w' := by
  have HM := Lib.hid (rempty ⟨lo, hi, false⟩)
  rw [emptySp_in] at HM
  subst hk
  have hk : decide (0 < kc k0 k0) = false := by rw [kc_self]; rfl
  have HC := fun o1 o2 => ((Chg.alloc (S := fun _ => False) w o1).allocs o2).cell hc0 id
  have HC2 := fun o1 o2 => ((((Chg.alloc (S := fun _ => False) w o1).allocs o2)).trans (Chg.drew _)).cell hc0 id
  clear hc0
  have HD := fun o1 o2 => ((Chg.alloc (S := fun _ => False) w o1).allocs o2).cell hd0 id
  clear hd0
  have t0 : decide (((j : Int) + 1) < (n : Int)) = true := decide_eq_true (by omega)
  have t1 : ((j : Int) + 1) ≤ (n : Int) := by omega
  have t3 : decide ((0 : Int) < ((j : Int) + 1)) = true := decide_eq_true (by omega)
  have t2 : ((j : Int) + 1) < (n : Int) := by omega
  clear hn
  generalize emptySp ⟨k0, hi, false⟩ = g at *
  unfold allSp zeroSp Sp.v at *
  simp only at *
  go_enter Try.func10, Try.ntmps10
  go_wp2_with fail
  go_quiet ((go_at_call 28; exact rcompare_q k0 k0 _ _))
  go_wp2_with fail
  go_quiet (fail)
  go_wp2_with fail
  refine (HM.out _).mono ?_
  rintro e w1 ⟨rfl, hs⟩
  have hq : Chg (fun k => k = w.heap.size) ((w.alloc (.cells #[.string k0.1, .string k0.1, .bool true] 37)).alloc (.cells #[.string ⟨#[]⟩, .string ⟨#[]⟩, .bool false] 37)) w1 := by
    refine Chg.trans ?_ (hs.mono (fun _ h => h.elim))
    repeat (first | exact Chg.refl _ _ | refine Chg.trans ?_ (Chg.setCell _ _ _ rfl) | refine Chg.trans ?_ (Chg.drewN _ _))
  have HW := Lib.hid (show Still w w1 from ((Chg.alloc (S := fun _ => False) w _).allocs _).then hq (fun i hi => .inr (by omega)))
  obtain ⟨h1, h2⟩ := alloc2_at w (.cells #[.string k0.1, .string k0.1, .bool true] 37) (.cells #[.string ⟨#[]⟩, .string ⟨#[]⟩, .bool false] 37)
  have g3 := hq.heap h2 (by show ¬ (w.heap.size + 1 = w.heap.size); omega)
  have q0 := heap_cell (j := 0) g3 rfl
  have q1 := heap_cell (j := 1) g3 rfl
  have q2 := heap_cell (j := 2) g3 rfl
  have f0 := heap_free (j := 0) g3
  have f1 := heap_free (j := 1) g3
  have f2 := heap_free (j := 2) g3
  have hbox : w1.heap[w.heap.size]? = some (.cells #[.string k0.1, .string hi.1, .bool false] 37 (0, 0)) := by
    refine (hs.block _ ?_ id).trans ?_
    · simp; omega
    · exact heap_set (heap_set (h1) _) _
  have r0 := heap_cell (j := 0) hbox rfl
  have r1 := heap_cell (j := 1) hbox rfl
  have r2 := heap_cell (j := 2) hbox rfl
  clear h1 h2 g3 hs hq hbox
  cases g with
  | true =>
    go_wp2
    refine bodyPost_ret (v := .tuple #[.agg #[.string ⟨#[]⟩, .string ⟨#[]⟩, .bool false], .bool false]) (by simp [results, Try.results10, go_sem, *]) rfl ?_
    exact ⟨rfl, set3 HW.out (by omega) _ _ _⟩
  | false =>
    go_wp2
    refine bodyPost_ret (v := .tuple #[.agg #[.string k0.1, .string hi.1, .bool false], .bool true]) (by simp [results, Try.results10, go_sem, *]) rfl ?_
    exact ⟨rfl, set3 HW.out (by omega) _ _ _⟩

set_option maxRecDepth 100000 in
set_option maxHeartbeats 1000000 in
theorem rspan_b {w : World} (A : Option Addr) (b off c n j : Nat) (lo hi : K) (hc0 : w.cell? ⟨b, off + j, none⟩ = some (.string lo.1)) (hk : 0 < kc lo k0) (hn : j + 1 = n) (hlen : n ≤ 9223372036854775807) (hnc : n ≤ c) (hc2 : c ≤ 9223372036854775807) :
    Calls Try.prog 10 #[.slice (some ⟨b, off, none⟩) n c, .int .i64 ((j : Int) + 1), allSp.v] w fun e w' => e = .returned (.tuple #[(if emptySp ⟨lo, k0, true⟩ then zeroSp else ⟨lo, k0, true⟩).v, .bool (!emptySp ⟨lo, k0, true⟩)]) ∧ Still w w' := by
  have HM := Lib.hid (rempty ⟨lo, k0, true⟩)
  rw [emptySp_in] at HM
  have HC := fun o1 o2 => ((Chg.alloc (S := fun _ => False) w o1).allocs o2).cell hc0 id
  have HC2 := fun o1 o2 => ((((Chg.alloc (S := fun _ => False) w o1).allocs o2)).trans (Chg.drew _)).cell hc0 id
  clear hc0
  have t0 : decide (((j : Int) + 1) < (n : Int)) = false := decide_eq_false (by omega)
  have t1 : ((j : Int) + 1) ≤ (n : Int) := by omega
  have t3 : decide ((0 : Int) < ((j : Int) + 1)) = true := decide_eq_true (by omega)
  clear hn
  generalize emptySp ⟨lo, k0, true⟩ = g at *
  unfold allSp zeroSp Sp.v at *
  simp only at *
  go_enter Try.func10, Try.ntmps10
  go_wp2_with fail
  go_quiet ((go_at_call 28; exact rcompare_q lo k0 _ _))
  go_wp2_with fail
  go_quiet (fail)
  go_wp2_with fail
  refine (HM.out _).mono ?_
  rintro e w1 ⟨rfl, hs⟩
  have hq : Chg (fun k => k = w.heap.size) ((w.alloc (.cells #[.string k0.1, .string k0.1, .bool true] 37)).alloc (.cells #[.string ⟨#[]⟩, .string ⟨#[]⟩, .bool false] 37)) w1 := by
    refine Chg.trans ?_ (hs.mono (fun _ h => h.elim))
    repeat (first | exact Chg.refl _ _ | refine Chg.trans ?_ (Chg.setCell _ _ _ rfl) | refine Chg.trans ?_ (Chg.drewN _ _))
  have HW := Lib.hid (show Still w w1 from ((Chg.alloc (S := fun _ => False) w _).allocs _).then hq (fun i hi => .inr (by omega)))
  obtain ⟨h1, h2⟩ := alloc2_at w (.cells #[.string k0.1, .string k0.1, .bool true] 37) (.cells #[.string ⟨#[]⟩, .string ⟨#[]⟩, .bool false] 37)
  have g3 := hq.heap h2 (by show ¬ (w.heap.size + 1 = w.heap.size); omega)
  have q0 := heap_cell (j := 0) g3 rfl
  have q1 := heap_cell (j := 1) g3 rfl
  have q2 := heap_cell (j := 2) g3 rfl
  have f0 := heap_free (j := 0) g3
  have f1 := heap_free (j := 1) g3
  have f2 := heap_free (j := 2) g3
  have hbox : w1.heap[w.heap.size]? = some (.cells #[.string lo.1, .string k0.1, .bool true] 37 (0, 0)) := by
    refine (hs.block _ ?_ id).trans ?_
    · simp; omega
    · exact heap_set (heap_set (h1) _) _
  have r0 := heap_cell (j := 0) hbox rfl
  have r1 := heap_cell (j := 1) hbox rfl
  have r2 := heap_cell (j := 2) hbox rfl
  clear h1 h2 g3 hs hq hbox
  cases g with
  | true =>
    go_wp2
    refine bodyPost_ret (v := .tuple #[.agg #[.string ⟨#[]⟩, .string ⟨#[]⟩, .bool false], .bool false]) (by simp [results, Try.results10, go_sem, *]) rfl ?_
    exact ⟨rfl, set3 HW.out (by omega) _ _ _⟩
  | false =>
    go_wp2
    refine bodyPost_ret (v := .tuple #[.agg #[.string lo.1, .string k0.1, .bool true], .bool true]) (by simp [results, Try.results10, go_sem, *]) rfl ?_
    exact ⟨rfl, set3 HW.out (by omega) _ _ _⟩

set_option maxRecDepth 100000 in
set_option maxHeartbeats 1000000 in
theorem rspan_b2 {w : World} (A : Option Addr) (b off c n j : Nat) (lo hi : K) (hc0 : w.cell? ⟨b, off + j, none⟩ = some (.string lo.1)) (hk : lo = k0) (hn : j + 1 = n) (hlen : n ≤ 9223372036854775807) (hnc : n ≤ c) (hc2 : c ≤ 9223372036854775807) :
    Calls Try.prog 10 #[.slice (some ⟨b, off, none⟩) n c, .int .i64 ((j : Int) + 1), allSp.v] w fun e w' => e = .returned (.tuple #[(if emptySp ⟨lo, k0, true⟩ then zeroSp else ⟨lo, k0, true⟩).v, .bool (!emptySp ⟨lo, k0, true⟩)]) ∧ Still w w' := by
  have HM := Lib.hid (rempty ⟨lo, k0, true⟩)
  rw [emptySp_in] at HM
  subst hk
  have hk : decide (0 < kc k0 k0) = false := by rw [kc_self]; rfl
  have HC := fun o1 o2 => ((Chg.alloc (S := fun _ => False) w o1).allocs o2).cell hc0 id
  have HC2 := fun o1 o2 => ((((Chg.alloc (S := fun _ => False) w o1).allocs o2)).trans (Chg.drew _)).cell hc0 id
  clear hc0
  have t0 : decide (((j : Int) + 1) < (n : Int)) = false := decide_eq_false (by omega)
  have t1 : ((j : Int) + 1) ≤ (n : Int) := by omega
  have t3 : decide ((0 : Int) < ((j : Int) + 1)) = true := decide_eq_true (by omega)
  clear hn
  generalize emptySp ⟨k0, k0, true⟩ = g at *
  unfold allSp zeroSp Sp.v at *
  simp only at *
  go_enter Try.func10, Try.ntmps10
  go_wp2_with fail
  go_quiet ((go_at_call 28; exact rcompare_q k0 k0 _ _))
  go_wp2_with fail
  go_quiet (fail)
  go_wp2_with fail
  refine (HM.out _).mono ?_
  rintro e w1 ⟨rfl, hs⟩
  have hq : Chg (fun k => k = w.heap.size) ((w.alloc (.cells #[.string k0.1, .string k0.1, .bool true] 37)).alloc (.cells #[.string ⟨#[]⟩, .string ⟨#[]⟩, .bool false] 37)) w1 := by
    refine Chg.trans ?_ (hs.mono (fun _ h => h.elim))
    repeat (first | exact Chg.refl _ _ | refine Chg.trans ?_ (Chg.setCell _ _ _ rfl) | refine Chg.trans ?_ (Chg.drewN _ _))
  have HW := Lib.hid (show Still w w1 from ((Chg.alloc (S := fun _ => False) w _).allocs _).then hq (fun i hi => .inr (by omega)))
  obtain ⟨h1, h2⟩ := alloc2_at w (.cells #[.string k0.1, .string k0.1, .bool true] 37) (.cells #[.string ⟨#[]⟩, .string ⟨#[]⟩, .bool false] 37)
  have g3 := hq.heap h2 (by show ¬ (w.heap.size + 1 = w.heap.size); omega)
  have q0 := heap_cell (j := 0) g3 rfl
  have q1 := heap_cell (j := 1) g3 rfl
  have q2 := heap_cell (j := 2) g3 rfl
  have f0 := heap_free (j := 0) g3
  have f1 := heap_free (j := 1) g3
  have f2 := heap_free (j := 2) g3
  have hbox : w1.heap[w.heap.size]? = some (.cells #[.string k0.1, .string k0.1, .bool true] 37 (0, 0)) := by
    refine (hs.block _ ?_ id).trans ?_
    · simp; omega
    · exact heap_set (h1) _
  have r0 := heap_cell (j := 0) hbox rfl
  have r1 := heap_cell (j := 1) hbox rfl
  have r2 := heap_cell (j := 2) hbox rfl
  clear h1 h2 g3 hs hq hbox
  cases g with
  | true =>
    go_wp2
    refine bodyPost_ret (v := .tuple #[.agg #[.string ⟨#[]⟩, .string ⟨#[]⟩, .bool false], .bool false]) (by simp [results, Try.results10, go_sem, *]) rfl ?_
    exact ⟨rfl, set3 HW.out (by omega) _ _ _⟩
  | false =>
    go_wp2
    refine bodyPost_ret (v := .tuple #[.agg #[.string k0.1, .string k0.1, .bool true], .bool true]) (by simp [results, Try.results10, go_sem, *]) rfl ?_
    exact ⟨rfl, set3 HW.out (by omega) _ _ _⟩

set_option maxRecDepth 100000 in
set_option maxHeartbeats 1000000 in
theorem rspan_c {w : World} (A : Option Addr) (b off c n j : Nat) (lo hi : K) (hd0 : w.cell? ⟨b, off + 0, none⟩ = some (.string hi.1)) (hn : 0 < n) (hlen : n ≤ 9223372036854775807) (hnc : n ≤ c) (hc2 : c ≤ 9223372036854775807) :
    Calls Try.prog 10 #[.slice (some ⟨b, off, none⟩) n c, .int .i64 (0 : Int), allSp.v] w fun e w' => e = .returned (.tuple #[(if emptySp ⟨k0, hi, false⟩ then zeroSp else ⟨k0, hi, false⟩).v, .bool (!emptySp ⟨k0, hi, false⟩)]) ∧ Still w w' := by
  have HM := Lib.hid (rempty ⟨k0, hi, false⟩)
  rw [emptySp_in] at HM
  have HD := fun o1 o2 => ((Chg.alloc (S := fun _ => False) w o1).allocs o2).cell hd0 id
  simp only [Nat.add_zero] at HD
  clear hd0
  have t0 : decide ((0 : Int) < (n : Int)) = true := decide_eq_true (by omega)
  have t1 : (0 : Int) ≤ (n : Int) := by omega
  have t3 : decide ((0 : Int) < (0 : Int)) = false := rfl
  have t2 : (0 : Int) < (n : Int) := by omega
  have t4 : decide (0 < n) = true := decide_eq_true (by omega)
  clear hn
  generalize emptySp ⟨k0, hi, false⟩ = g at *
  unfold allSp zeroSp Sp.v at *
  simp only at *
  go_enter Try.func10, Try.ntmps10
  go_wp2_with fail
  go_quiet (fail)
  go_wp2_with fail
  go_quiet (fail)
  go_wp2_with fail
  refine (HM.out _).mono ?_
  rintro e w1 ⟨rfl, hs⟩
  have hq : Chg (fun k => k = w.heap.size) ((w.alloc (.cells #[.string k0.1, .string k0.1, .bool true] 37)).alloc (.cells #[.string ⟨#[]⟩, .string ⟨#[]⟩, .bool false] 37)) w1 := by
    refine Chg.trans ?_ (hs.mono (fun _ h => h.elim))
    repeat (first | exact Chg.refl _ _ | refine Chg.trans ?_ (Chg.setCell _ _ _ rfl) | refine Chg.trans ?_ (Chg.drewN _ _))
  have HW := Lib.hid (show Still w w1 from ((Chg.alloc (S := fun _ => False) w _).allocs _).then hq (fun i hi => .inr (by omega)))
  obtain ⟨h1, h2⟩ := alloc2_at w (.cells #[.string k0.1, .string k0.1, .bool true] 37) (.cells #[.string ⟨#[]⟩, .string ⟨#[]⟩, .bool false] 37)
  have g3 := hq.heap h2 (by show ¬ (w.heap.size + 1 = w.heap.size); omega)
  have q0 := heap_cell (j := 0) g3 rfl
  have q1 := heap_cell (j := 1) g3 rfl
  have q2 := heap_cell (j := 2) g3 rfl
  have f0 := heap_free (j := 0) g3
  have f1 := heap_free (j := 1) g3
  have f2 := heap_free (j := 2) g3
  have hbox : w1.heap[w.heap.size]? = some (.cells #[.string k0.1, .string hi.1, .bool false] 37 (0, 0)) := by
    refine (hs.block _ ?_ id).trans ?_
    · simp; omega
    · exact heap_set (heap_set (h1) _) _
  have r0 := heap_cell (j := 0) hbox rfl
  have r1 := heap_cell (j := 1) hbox rfl
  have r2 := heap_cell (j := 2) hbox rfl
  clear h1 h2 g3 hs hq hbox
  cases g with
  | true =>
    go_wp2
    refine bodyPost_ret (v := .tuple #[.agg #[.string ⟨#[]⟩, .string ⟨#[]⟩, .bool false], .bool false]) (by simp [results, Try.results10, go_sem, *]) rfl ?_
    exact ⟨rfl, set3 HW.out (by omega) _ _ _⟩
  | false =>
    go_wp2
    refine bodyPost_ret (v := .tuple #[.agg #[.string k0.1, .string hi.1, .bool false], .bool true]) (by simp [results, Try.results10, go_sem, *]) rfl ?_
    exact ⟨rfl, set3 HW.out (by omega) _ _ _⟩

set_option maxRecDepth 100000 in
set_option maxHeartbeats 1000000 in
theorem rspan_d {w : World} (A : Option Addr) (b off c n j : Nat) (lo hi : K) (hn : 0 = n) (hlen : n ≤ 9223372036854775807) (hnc : n ≤ c) (hc2 : c ≤ 9223372036854775807) :
    Calls Try.prog 10 #[.slice A n c, .int .i64 (0 : Int), allSp.v] w fun e w' => e = .returned (.tuple #[(if emptySp ⟨k0, k0, true⟩ then zeroSp else ⟨k0, k0, true⟩).v, .bool (!emptySp ⟨k0, k0, true⟩)]) ∧ Still w w' := by
  subst hn
  have HM := Lib.hid (rempty ⟨k0, k0, true⟩)
  rw [emptySp_in] at HM
  have t3 : decide ((0 : Int) < (0 : Int)) = false := rfl
  generalize emptySp ⟨k0, k0, true⟩ = g at *
  unfold allSp zeroSp Sp.v at *
  simp only at *
  go_enter Try.func10, Try.ntmps10
  go_wp2_with fail
  go_quiet (fail)
  go_wp2_with fail
  go_quiet (fail)
  go_wp2_with fail
  refine (HM.out _).mono ?_
  rintro e w1 ⟨rfl, hs⟩
  have hq : Chg (fun k => k = w.heap.size) ((w.alloc (.cells #[.string k0.1, .string k0.1, .bool true] 37)).alloc (.cells #[.string ⟨#[]⟩, .string ⟨#[]⟩, .bool false] 37)) w1 := by
    refine Chg.trans ?_ (hs.mono (fun _ h => h.elim))
    repeat (first | exact Chg.refl _ _ | refine Chg.trans ?_ (Chg.setCell _ _ _ rfl) | refine Chg.trans ?_ (Chg.drewN _ _))
  have HW := Lib.hid (show Still w w1 from ((Chg.alloc (S := fun _ => False) w _).allocs _).then hq (fun i hi => .inr (by omega)))
  obtain ⟨h1, h2⟩ := alloc2_at w (.cells #[.string k0.1, .string k0.1, .bool true] 37) (.cells #[.string ⟨#[]⟩, .string ⟨#[]⟩, .bool false] 37)
  have g3 := hq.heap h2 (by show ¬ (w.heap.size + 1 = w.heap.size); omega)
  have q0 := heap_cell (j := 0) g3 rfl
  have q1 := heap_cell (j := 1) g3 rfl
  have q2 := heap_cell (j := 2) g3 rfl
  have f0 := heap_free (j := 0) g3
  have f1 := heap_free (j := 1) g3
  have f2 := heap_free (j := 2) g3
  have hbox : w1.heap[w.heap.size]? = some (.cells #[.string k0.1, .string k0.1, .bool true] 37 (0, 0)) := by
    refine (hs.block _ ?_ id).trans ?_
    · simp; omega
    · exact heap_set (h1) _
  have r0 := heap_cell (j := 0) hbox rfl
  have r1 := heap_cell (j := 1) hbox rfl
  have r2 := heap_cell (j := 2) hbox rfl
  clear h1 h2 g3 hs hq hbox
  cases g with
  | true =>
    go_wp2
    refine bodyPost_ret (v := .tuple #[.agg #[.string ⟨#[]⟩, .string ⟨#[]⟩, .bool false], .bool false]) (by simp [results, Try.results10, go_sem, *]) rfl ?_
    exact ⟨rfl, set3 HW.out (by omega) _ _ _⟩
  | false =>
    go_wp2
    refine bodyPost_ret (v := .tuple #[.agg #[.string k0.1, .string k0.1, .bool true], .bool true]) (by simp [results, Try.results10, go_sem, *]) rfl ?_
    exact ⟨rfl, set3 HW.out (by omega) _ _ _⟩
end Go.Proofs.Ytekoibglogoaaaa
