/- BitsAll: the first loop. -/
import Derived.Test.YtliamjhjdoakcaaDoorLc
import Derived.Test.YtliamjhjdoakcaaDoorMp
namespace Go.Proofs.YtliamjhjdoakcaaDoor
open Go Go.RowKit Go.Shelf
set_option linter.unusedVariables false
set_option linter.unusedSimpArgs false

/-- A row beside the map of its taken places. -/
structure All (B : Nat) (w0 : World) (n : Nat) (w : World) (p wb b : Nat) (l : List Bool) (m : List (Int × Value)) : Prop where
  len : l.length = n
  row : IsRow w p wb l
  map : IMap w b .i64 m
  bp : B ≤ p
  bw : B ≤ wb
  bb : B ≤ b
  np : b ≠ p
  nw : b ≠ wb
  hB : B ≤ w.heap.size
  below : Below B w0 w
  agree : ∀ j : Nat, j < n → getM m j = if l.getD j false then some (.bool true) else none
  size : m.length = l.count true

theorem All.still {B : Nat} {w0 : World} {n : Nat} {w w' : World} {p wb b : Nat} {l : List Bool} {m : List (Int × Value)} (h : All B w0 n w p wb b l m) (hc : Still w w') : All B w0 n w' p wb b l m :=
  ⟨h.len, h.row.still hc, h.map.chg hc id, h.bp, h.bw, h.bb, h.np, h.nw, Nat.le_trans h.hB hc.size, h.below.trans (hc.below h.hB (fun _ h => h.elim)), h.agree, h.size⟩
theorem All.tab {B : Nat} {w0 : World} {n : Nat} {w : World} {p wb b : Nat} {l : List Bool} {m : List (Int × Value)} (h : All B w0 n w p wb b l m) (hT : TabAt 0 Lib.deBruijn64tab w0) (hB : 0 < B) : TabAt 0 Lib.deBruijn64tab w :=
  fun j hj => (h.below.cell hB).trans (hT j hj)
theorem setL_in (l : List Bool) (j : Nat) (hj : j < l.length) : setL l j = l.set j true := by unfold setL; rw [if_neg (by omega)]; rfl
theorem All.set {B : Nat} {w0 : World} {n : Nat} {w w1 w2 : World} {p wb b : Nat} {l : List Bool} {m : List (Int × Value)} (h : All B w0 n w p wb b l m) (j : Nat) (hj : j < n)
    (hr : IsRow w1 p wb (setL l j)) (hc : Chg (fun k => k = p ∨ k = wb) w w1) (hm : IMap w2 b .i64 (putM m j (.bool true))) (hc2 : Chg (fun q => q = b) w1 w2) : All B w0 n w2 p wb b (l.set j true) (putM m j (.bool true)) := by
  have h1 := h.np
  have h2 := h.nw
  have hjl : j < l.length := by rw [h.len]; exact hj
  rw [setL_in l j hjl] at hr
  refine ⟨by simpa using h.len, hr.chg hc2 (fun e => h1 e.symm) (fun e => h2 e.symm), hm, h.bp, h.bw, h.bb, h1, h2, Nat.le_trans h.hB (Nat.le_trans hc.size hc2.size), (h.below.trans (hc.below h.hB (fun i hi => by rcases hi with rfl | rfl; exact h.bp; exact h.bw))).trans (hc2.below (Nat.le_trans h.hB hc.size) (fun i hi => by subst hi; exact h.bb)), fun q hq => ?_, ?_⟩
  · rw [getM_putM, Bt.getD_set]
    by_cases e : q = j
    · subst e
      simp [hjl]
    · have e2 : ¬ ((q : Int) = (j : Int)) := by omega
      have e3 : ¬ (j = q ∧ j < l.length) := by omega
      rw [if_neg e2, if_neg e3]
      exact h.agree q hq
  · rw [putM_length, h.agree j hj]
    cases hv : l.getD j false with
    | true => rw [set_same l j hjl true hv]; simpa using h.size
    | false => rw [count_set_true l j hjl hv]; simpa using h.size

/-- The numbers that came in. -/
def Nums (w : World) (B : Nat) (A : Option Addr) (len : Nat) (k : IntKind) (xs : Nat → Int) : Prop :=
  ∃ b off, (0 < len → A = some ⟨b, off, none⟩) ∧ b < B ∧ ∀ j, j < len → w.cell? ⟨b, off + j, none⟩ = some (.int k (xs j))
theorem Nums.at_ {w w' : World} {B : Nat} {A : Option Addr} {len : Nat} {k : IntKind} {xs : Nat → Int} (h : Nums w B A len k xs) (hb : Below B w w') (j : Nat) (hj : j < len) :
    ∃ b off, A = some ⟨b, off, none⟩ ∧ w'.cell? ⟨b, off + j, none⟩ = some (.int k (xs j)) ∧ b < B := by
  obtain ⟨b, off, hA, hlt, hc⟩ := h
  exact ⟨b, off, hA (by omega), (hb.cell hlt).trans (hc j hj), hlt⟩

theorem first_lt {l : List Bool} {f i : Nat} {b : Bool} (h : Bt.first l f b = some i) : i < l.length ∧ f ≤ i ∧ l.getD i false = b := by
  rw [Bt.first_some] at h; exact ⟨h.1, h.2.1, h.2.2.1⟩
theorem hasB_at (l : List Bool) (i : Nat) (hi : i < l.length) : hasB l i = l.getD i false := by unfold hasB; simp [hi]
theorem count_gap (l : List Bool) (b : Bool) (f : Nat) : ∀ i, f ≤ i → i ≤ l.length → (∀ j, f ≤ j → j < i → l.getD j false ≠ b) → (l.take i).count b = (l.take f).count b := by
  intro i
  induction i with
  | zero => intro h1 _ _; rw [show f = 0 by omega]
  | succ i ih =>
    intro h1 h2 h3
    by_cases e : f = i + 1
    · subst e; rfl
    · have h4 := ih (by omega) (by omega) (fun j hj hji => h3 j hj (by omega))
      rw [List.take_succ_eq_append_getElem (by omega), List.count_append, h4]
      have h5 := h3 i (by omega) (by omega)
      simp only [List.getD_eq_getElem?_getD, List.getElem?_eq_getElem (show i < l.length by omega), Option.getD_some] at h5
      simp [h5]
/-- Behind a step to the next place: one more. -/
theorem count_step {l : List Bool} {b : Bool} {f i : Nat} (h : Bt.first l f b = some i) : (l.take (i + 1)).count b = (l.take f).count b + 1 := by
  rw [Bt.first_some] at h
  obtain ⟨h1, h2, h3, h4⟩ := h
  rw [List.take_succ_eq_append_getElem h1, List.count_append, count_gap l b f i h2 (by omega) h4]
  simp only [List.getD_eq_getElem?_getD, List.getElem?_eq_getElem h1, Option.getD_some] at h3
  simp [h3]
theorem count_end {l : List Bool} {b : Bool} {f : Nat} (h : Bt.first l f b = none) (hf : f ≤ l.length) : (l.take f).count b = l.count b := by
  rw [Bt.first_none] at h
  have := count_gap l b f l.length hf (Nat.le_refl _) h
  rw [← this, List.take_length]
theorem count_both (l : List Bool) : l.count true + l.count false = l.length := by
  induction l with
  | nil => rfl
  | cons x r ih => cases x <;> simp <;> omega

theorem firstE_is (r : Option Nat) : ∃ (x : Int) (ok : Bool), firstE r = .returned (.tuple #[.int .i64 x, .bool ok]) := by
  cases r
  · exact ⟨_, _, rfl⟩
  · exact ⟨_, _, rfl⟩
theorem zero4 : ∀ w, (zeroValue 4).run Tryd.prog w = .ok (.bool false) w := fun w => by kernel_rfl
theorem All.has {B : Nat} {w0 : World} {n : Nat} {w : World} {p wb b : Nat} {l : List Bool} {m : List (Int × Value)} (h : All B w0 n w p wb b l m) (i : Nat) (hi : i < n) (v : Bool) (hv : l.getD i false = v) :
    (Instr.lookup 28 (.map (some b)) (.int .i64 (i : Int)) false).run Tryd.prog w = .ok (.bool v) w := by
  rw [run_lookup_imap (P := Tryd.prog) Tryd.underlying28 Tryd.underlying3 zero4 h.map i, h.agree i hi, hv]
  cases v <;> rfl

/-- Where a walk from place to place stands: the next place from f on, and how many were met. -/
def StepR (l : List Bool) (b : Bool) (t i ok : Value) : Prop :=
  ∃ f c : Nat, f ≤ l.length ∧ t = .int .i64 (c : Nat) ∧ Hid ((l.take f).count b = c) ∧ ∃ x o, i = .int .i64 x ∧ ok = .bool o ∧ firstE (Bt.first l f b) = .returned (.tuple #[.int .i64 x, .bool o])
theorem stepR_ok {l : List Bool} {b : Bool} {f : Nat} {x : Int} {o : Bool} (h : firstE (Bt.first l f b) = .returned (.tuple #[.int .i64 x, .bool o])) :
    (o = false ∧ Bt.first l f b = none) ∨ (o = true ∧ ∃ i : Nat, x = i ∧ Bt.first l f b = some i) := by
  cases hf : Bt.first l f b with
  | none =>
    rw [hf] at h
    simp only [firstE, Ending.returned.injEq, Value.tuple.injEq, Array.mk.injEq, List.cons.injEq, Value.bool.injEq] at h
    exact .inl ⟨h.2.1.symm, rfl⟩
  | some i =>
    rw [hf] at h
    simp only [firstE, Ending.returned.injEq, Value.tuple.injEq, Array.mk.injEq, List.cons.injEq, Value.bool.injEq, Value.int.injEq] at h
    exact .inr ⟨h.2.1.symm, i, h.1.2.symm, rfl⟩

def AllR (B : Nat) (w0 : World) (n p wb b m0 : Nat) (i : Value) (w : World) : Prop := ∃ (k : Nat) (l : List Bool) (m : List (Int × Value)), k ≤ m0 ∧ k ≤ 500 ∧ i = .int .i64 (k : Nat) ∧ All B w0 n w p wb b l m
def boolOf : Value → Bool | .bool b => b | _ => false

set_option maxHeartbeats 2000000 in
set_option maxRecDepth 100000 in
theorem all_loop (w : World) (hT : TabAt 0 Lib.deBruijn64tab w) (n : Nat) (h1 : 1 ≤ n) (h2 : n ≤ 65536) (A : Option Addr) (len cap0 : Nat) (hlen : len ≤ 9223372036854775807) (xs : Nat → Int) (hxs : ∀ j, 0 ≤ xs j ∧ xs j ≤ 65535) (hA : Nums w w.heap.size A len .u16 xs) :
    Calls Tryd.prog 3 #[.int .i64 n, .slice A len cap0] w (TrueP w) := by
  have HT := Lib.hid hT
  have HA := Lib.hid hA
  have Hxs := Lib.hid hxs
  have hpos := tab_lt hT
  clear hT hA hxs
  have hmm := @run_makeMap Tryd.prog
  go_enter Tryd.func3, Tryd.ntmps3
  go_wp2_with fail
  refine (new_ok n w h1 h2).mono ?_
  rintro e w1 ⟨p, wb, rfl, hr, hp, hwb, hB⟩
  have hP : All w.heap.size w n (w1.alloc (.map #[] 0)) p wb w1.heap.size (List.replicate n false) [] := by
    have hlt := hr.lt
    have hs := hB.size
    exact ⟨by simp, hr.still (Chg.alloc w1 _), IMap.new w1 _, hp, hwb, hs, by omega, by omega, by simp; omega, hB.alloc hs _, fun j hj => by rw [Bt.getD_replicate]; rfl, by simp [List.count_replicate]⟩
  have HP := Lib.hid hP
  clear hr hB hP
  go_wp2_with fail
  go_loopw [8] (fun i wr => AllR w.heap.size w n p wb w1.heap.size len i wr) (fun i _ => len - (intOf i).toNat)
  case atStart => exact ⟨0, _, _, Nat.zero_le _, by omega, rfl, HP.out⟩
  case round =>
    clear HP
    obtain ⟨k, l, m, hk, hk5, rfl, hP⟩ := hrel
    have HP := Lib.hid hP
    clear hP
    by_cases hlt : k < len ∧ k < 500
    · obtain ⟨hlt, h50⟩ := hlt
      obtain ⟨b, off, rfl, hx, hbB⟩ := HA.out.at_ HP.out.below k hlt
      obtain ⟨hx0, hx1⟩ := Hxs.out k
      generalize xs k = x at hx hx0 hx1
      obtain ⟨j, hj, hjn⟩ : ∃ j : Nat, x % (n : Int) = (j : Int) ∧ j < n := ⟨(x % (n : Int)).toNat, by have := Int.emod_nonneg x (show (n : Int) ≠ 0 by omega); omega, by have := Int.emod_lt_of_pos x (show (0 : Int) < (n : Int) by omega); have := Int.emod_nonneg x (show (n : Int) ≠ 0 by omega); omega⟩
      have Hj := Lib.hid hj
      clear hj
      go_wp2_with fail
      refine (row_set HP.out.row (x % (n : Int))).mono ?_
      rintro e w2 ⟨rfl, hr2, hc2⟩
      have hx2 : w2.cell? ⟨b, off + k, none⟩ = some (.int .u16 x) := hc2.cell hx (by have h1 := HP.out.bp; have h2 := HP.out.bw; show ¬ (b = p ∨ b = wb); omega)
      obtain ⟨w3, hrun, hm3, hc3⟩ := run_update_imap (P := Tryd.prog) Tryd.underlying28 Tryd.underlying3 (HP.out.map.chg hc2 (by have h1 := HP.out.np; have h2 := HP.out.nw; show ¬ (w1.heap.size = p ∨ w1.heap.size = wb); omega)) (x % (n : Int)) (.bool true)
      have HP3 : Hid (All w.heap.size w n w3 p wb w1.heap.size (l.set j true) (putM m j (.bool true))) := by
        rw [Hj.out] at hr2 hm3
        exact HP.out.set j hjn hr2 hc2 hm3 hc3
      clear hr2 hc2 hm3 hc3 HP hx
      go_wp2
      go_roundw
      case rel => exact ⟨k + 1, _, _, by omega, by omega, by go_num, HP3.out⟩
      case measure => simp [intOf]; omega
    · have hend : ¬ k < len ∨ ¬ k < 500 := by omega
      clear hlt
      have key : (¬ k < len) ∨ (k < len ∧ ¬ k < 500) := by omega
      clear hend
      rcases key with key | ⟨key, key2⟩
      all_goals
        go_wp2_with fail
        obtain ⟨x0, o0, e0⟩ := firstE_is (Bt.first l 0 true)
        have E0 := Lib.hid e0
        refine (row_next' HP.out.row (HP.out.tab HT.out hpos) 0).mono ?_
        rintro e w2 ⟨rfl, hc2⟩
        rw [show ((0 : Int).toNat) = 0 from rfl, e0]
        have HP1 := Lib.hid (HP.out.still hc2)
        clear hc2 HP e0
        go_wp2_with fail
        go_loopw [9, 11, 12] (fun t i ok wr => StepR l true t i ok ∧ All w.heap.size w n wr p wb w1.heap.size l m) (fun _ i ok _ => if boolOf ok then n + 1 - (intOf i).toNat else 0)
        case atStart => exact ⟨⟨0, 0, Nat.zero_le _, rfl, rfl, _, _, rfl, rfl, E0.out⟩, HP1.out⟩
        case round =>
          clear HP1
          obtain ⟨⟨f, c, hf, rfl, hcnt, x, o, rfl, rfl, he⟩, hP⟩ := hrel
          have HP := Lib.hid hP
          clear hP
          have hcl : c ≤ 65536 := by have h3 := hcnt.out; have h4 : (l.take f).count true ≤ (l.take f).length := List.count_le_length; have h5 := HP.out.len; simp only [List.length_take] at h4; omega
          rcases stepR_ok he with ⟨rfl, hnone⟩ | ⟨rfl, i, rfl, hsome⟩
          rotate_left
          · clear he
            have hil := (first_lt hsome).1
            have hiv := (first_lt hsome).2.2
            have hin : i < n := by rw [← HP.out.len]; exact hil
            have hlk := HP.out.has i hin true hiv
            have hs' := count_step hsome
            rw [hcnt.out] at hs'
            have Hs := Lib.hid hs'
            have Hh := Lib.hid (show hasB l i = true by rw [hasB_at l i hil]; exact hiv)
            have Hl := Lib.hid hil
            clear hs' hsome hcnt hiv hil
            go_wp2_with fail
            refine (row_has HP.out.row i).mono ?_
            rintro e w3 ⟨rfl, rfl⟩
            rw [Hh.out]
            go_wp2_with fail
            obtain ⟨x2, o2, e2⟩ := firstE_is (Bt.first l (i + 1) true)
            have E2 := Lib.hid e2
            refine (row_next' HP.out.row (HP.out.tab HT.out hpos) ((i : Int) + 1)).mono ?_
            rintro e w4 ⟨rfl, hc4⟩
            rw [show ((i : Int) + 1).toNat = i + 1 by omega, e2]
            have HP4 := Lib.hid (HP.out.still hc4)
            clear hc4 HP e2
            have H2 : Hid (o2 = true → ∃ i2 : Nat, x2 = i2 ∧ i + 1 ≤ i2) := fun ho => by
              rcases stepR_ok E2.out with ⟨h5, _⟩ | ⟨_, i2, h5, h6⟩
              · rw [h5] at ho; cases ho
              · exact ⟨i2, h5, (first_lt h6).2.1⟩
            go_wp2_with fail
            go_roundw
            case rel => exact ⟨⟨i + 1, c + 1, Hl.out, by go_num, Hs.out, _, _, rfl, rfl, E2.out⟩, HP4.out⟩
            case measure =>
              cases o2 with
              | false => simp [boolOf, intOf]; omega
              | true =>
                obtain ⟨i2, h5, h6⟩ := H2.out rfl
                subst h5
                simp [boolOf, intOf]; omega
          · clear he
            obtain ⟨ct, e⟩ : ∃ ct, ct = c := ⟨c, rfl⟩
            subst e
            have hct : l.count true = ct := by have h3 := count_end hnone hf; have h4 := hcnt.out; omega
            clear hnone hcnt hcl
            have Hct : Hid (ct = l.count true) := hct.symm
            have hctl : ct ≤ 65536 := by have h5 := count_both l; have h6 := HP.out.len; omega
            clear hct
            go_wp2_with fail
            obtain ⟨x1, o1, e1⟩ := firstE_is (Bt.first l 0 false)
            have E1 := Lib.hid e1
            refine (row_free' HP.out.row (HP.out.tab HT.out hpos) 0).mono ?_
            rintro e w6 ⟨rfl, hc6⟩
            rw [show ((0 : Int).toNat) = 0 from rfl, e1]
            have HP6 := Lib.hid (HP.out.still hc6)
            clear hc6 HP e1
            go_wp2_with fail
            go_loopw [10, 13, 14] (fun t i ok wr => StepR l false t i ok ∧ All w.heap.size w n wr p wb w1.heap.size l m) (fun _ i ok _ => if boolOf ok then n + 1 - (intOf i).toNat else 0)
            case atStart => exact ⟨⟨0, 0, Nat.zero_le _, rfl, rfl, _, _, rfl, rfl, E1.out⟩, HP6.out⟩
            case round =>
              clear HP6
              obtain ⟨⟨f, c, hf, rfl, hcnt, x, o, rfl, rfl, he⟩, hP⟩ := hrel
              have HP := Lib.hid hP
              clear hP
              have hcl : c ≤ 65536 := by have h3 := hcnt.out; have h4 : (l.take f).count false ≤ (l.take f).length := List.count_le_length; have h5 := HP.out.len; simp only [List.length_take] at h4; omega
              rcases stepR_ok he with ⟨rfl, hnone⟩ | ⟨rfl, i, rfl, hsome⟩
              rotate_left
              · clear he
                have hil := (first_lt hsome).1
                have hiv := (first_lt hsome).2.2
                have hin : i < n := by rw [← HP.out.len]; exact hil
                have hlk := HP.out.has i hin false hiv
                have hs' := count_step hsome
                rw [hcnt.out] at hs'
                have Hs := Lib.hid hs'
                have Hh := Lib.hid (show hasB l i = false by rw [hasB_at l i hil]; exact hiv)
                have Hl := Lib.hid hil
                clear hs' hsome hcnt hiv hil
                go_wp2_with fail
                refine (row_has HP.out.row i).mono ?_
                rintro e w3 ⟨rfl, rfl⟩
                rw [Hh.out]
                go_wp2_with fail
                obtain ⟨x2, o2, e2⟩ := firstE_is (Bt.first l (i + 1) false)
                have E2 := Lib.hid e2
                refine (row_free' HP.out.row (HP.out.tab HT.out hpos) ((i : Int) + 1)).mono ?_
                rintro e w4 ⟨rfl, hc4⟩
                rw [show ((i : Int) + 1).toNat = i + 1 by omega, e2]
                have HP4 := Lib.hid (HP.out.still hc4)
                clear hc4 HP e2
                have H2 : Hid (o2 = true → ∃ i2 : Nat, x2 = i2 ∧ i + 1 ≤ i2) := fun ho => by
                  rcases stepR_ok E2.out with ⟨h5, _⟩ | ⟨_, i2, h5, h6⟩
                  · rw [h5] at ho; cases ho
                  · exact ⟨i2, h5, (first_lt h6).2.1⟩
                go_wp2_with fail
                go_roundw
                case rel => exact ⟨⟨i + 1, c + 1, Hl.out, by go_num, Hs.out, _, _, rfl, rfl, E2.out⟩, HP4.out⟩
                case measure =>
                  cases o2 with
                  | false => simp [boolOf, intOf]; omega
                  | true =>
                    obtain ⟨i2, h5, h6⟩ := H2.out rfl
                    subst h5
                    simp [boolOf, intOf]; omega
              · clear he
                have hc2 : Hid (c = l.count false) := by have h3 := count_end hnone hf; rw [← h3]; exact hcnt.out.symm
                clear hnone hcnt
                have hct : Hid ((l.count true : Nat) = m.length) := HP.out.size.symm
                have hcr : wr.cell? ⟨p, 1, none⟩ = some (.int .i64 (ct : Nat)) := by have h3 := HP.out.row.count; rw [← Hct.out] at h3; exact h3
                have t1 : ((ct : Int) == (m.length : Int)) = true := beq_iff_eq.2 (by have h3 := Hct.out; have h4 := hct.out; omega)
                have t2 : ((c : Int) == (n : Int) - (m.length : Int)) = true := beq_iff_eq.2 (by have h3 := hc2.out; have h4 := hct.out; have h5 := count_both l; have h6 := HP.out.len; omega)
                have hml : m.length ≤ 65536 := by have h4 := hct.out; have h5 := count_both l; have h6 := HP.out.len; omega
                have hlen3 := fun ty => run_len_imap (P := Tryd.prog) (ty := ty) Tryd.underlying28 HP.out.map
                have HB := Lib.hid (show Below w.heap.size w wr ∧ w.heap.size ≤ wr.heap.size ∧ TabAt 0 Lib.deBruijn64tab wr from ⟨HP.out.below, HP.out.hB, HP.out.tab HT.out hpos⟩)
                clear HP hc2 hct
                go_wp2_with (first | (go_at_call 14; refine (count_row _ _ _ hcr).mono ?_; rintro e w5 ⟨rfl, rfl⟩) | (go_at_call 9; refine (awake04 _ HB.out.2.2).mono ?_; rintro e w9 ⟨rfl, hb9⟩))
                go_ret
                exact ⟨rfl, HB.out.1.trans (hb9.mono HB.out.2.1)⟩
end Go.Proofs.YtliamjhjdoakcaaDoor
