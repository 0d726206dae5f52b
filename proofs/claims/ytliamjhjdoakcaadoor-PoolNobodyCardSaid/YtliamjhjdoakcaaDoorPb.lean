/- pool.Pool: Grab, Take and Row, by their contracts. -/
import Derived.Test.YtliamjhjdoakcaaDoorPa
namespace Go.Proofs.YtliamjhjdoakcaaDoor
open Go Go.RowKit Go.Shelf
set_option linter.unusedVariables false
set_option linter.unusedSimpArgs false

theorem info52 : (Tryd.prog.info? 52).map (fun i => (i.zero, i.size, i.bytes)) = some (some (.int .u32 0), 1, 4) := by kernel_rfl

/-- append of one element of one cell to a row of one's own. -/
theorem append_one {P : Program} {ops : Array Oper} {rest : List Oper} {o : Oper} {a : Act} {Q : Exit → Act → World → Prop} {W : World} (hgd : o.guard = none) (s x : Operand) (t e : TypeId) (z y v : Value) (bytes : Nat)
    (ho : o.op = .call { callee := .builtin .append, args := #[s, x], argTypes := #[t, t] }) (ht : P.underlying t = some (.slice e)) (hinfo : (P.info? e).map (fun i => (i.zero, i.size, i.bytes)) = some (some z, 1, bytes)) (hz : z.cells.size = 1)
    (base : Nat) (xs : List Value) (n : Nat) (hs : a.eval s = v) (hx : a.eval x = .slice (some ⟨W.heap.size, 0, none⟩) 1 1) (h1 : y.oneCell' = true) (HO : W.ownsRow base e 1 v n xs) (hbase : base ≤ W.heap.size)
    (hn : n + 1 ≤ 9223372036854775807) (hl : (n + 1) * bytes ≤ 140737488355328)
    (h : ∀ v1 w1, w1.ownsRow base e 1 v1 (n + 1) (xs ++ [y]) → Chg (fun k => v.ownBlock = some k) W w1 → wpList P ops Q rest (a.put o.dst v1) w1) :
    wpList P ops Q (o :: rest) a (W.alloc (.cells #[y] e)) := by
  obtain ⟨i0, hi, hz0, hz1, hz2⟩ := info_parts hinfo
  refine wpList_append_own (W.alloc (.cells #[y] e)) hgd s x t ho base e i0 z 1 bytes ht hi hz0 hz1 hz2 hz (by decide) v n xs hs (HO.alloc _) ⟨W.heap.size, 0, none⟩ 1 1 [y] hx rfl ?_ ?_ (by unfold maxLen; omega) hl (by simp; omega) ?_
  · intro j u hj
    match j, hj with
    | 0, hj =>
      simp only [List.getElem?_cons_zero, Option.some.injEq] at hj
      subst hj
      rw [addr_add]
      exact heap_cell (heap_alloc_new W _) rfl
  · intro u hu
    simp only [List.mem_singleton] at hu
    subst hu; exact h1
  · intro v1 w1 ho1 hg _
    exact h v1 w1 ho1 ((Chg.alloc W _).grown hg (fun k hk => .inl hk))

def Own32 (w : World) (base : Nat) (v : Value) (xs : List Nat) : Prop := w.ownsRow base 52 1 v xs.length (xs.map fun x : Nat => Value.int .u32 (x : Int))
theorem Own32.nil (w : World) (base : Nat) : Own32 w base (.slice none 0 0) [] := World.ownsRow_nil w base 52 1
theorem Own32.block {w : World} {base : Nat} {v : Value} {xs : List Nat} (h : Own32 w base v xs) (k : Nat) (hk : v.ownBlock = some k) : base ≤ k := (h.lt k hk).1

theorem append32 {ops : Array Oper} {rest : List Oper} {o : Oper} {a : Act} {Q : Exit → Act → World → Prop} {W : World} (hgd : o.guard = none) (s x : Operand) (y : Nat) (v : Value)
    (ho : o.op = .call { callee := .builtin .append, args := #[s, x], argTypes := #[54, 54] })
    (base : Nat) (xs : List Nat) (hs : a.eval s = v) (hx : a.eval x = .slice (some ⟨W.heap.size, 0, none⟩) 1 1) (HO : Own32 W base v xs) (hbase : base ≤ W.heap.size) (hl : xs.length ≤ 1000000)
    (h : ∀ v1 w1, Own32 w1 base v1 (xs ++ [y]) → Chg (fun k => v.ownBlock = some k) W w1 → wpList Tryd.prog ops Q rest (a.put o.dst v1) w1) :
    wpList Tryd.prog ops Q (o :: rest) a (W.alloc (.cells #[.int .u32 (y : Int)] 52)) :=
  append_one hgd s x 54 52 (.int .u32 0) (.int .u32 (y : Int)) v 4 ho Tryd.underlying54 info52 rfl base _ xs.length hs hx rfl HO hbase (by omega) (by omega) fun v1 w1 h1 h2 => h v1 w1 (by unfold Own32; simpa using h1) h2

/-- What Grab has done behind j rounds. -/
structure Grabbed (w wr : World) (q p wb : Nat) (l : List Bool) (k : Nat) (j f : Nat) (v : Value) (got : List Nat) (l' : List Bool) : Prop where
  own : Own32 wr w.heap.size v got
  len : got.length = j
  pool : IsPool wr q p wb l'
  same : l'.length = l.length
  from_ : ∀ x, f ≤ x → l'.getD x false = l.getD x false
  all : l' = Bt.setAll l got
  gr : Bt.gr l 0 k = got ++ Bt.gr l f (k - j)
  room : k - j ≤ Bt.fc l f
  chg : Chg (fun i => i = p ∨ i = wb) w wr
  le : f ≤ l.length

theorem Grabbed.start {w : World} {q p wb : Nat} {l : List Bool} (h : IsPool w q p wb l) (k : Nat) (hk : k ≤ l.count false) : Grabbed w w q p wb l k 0 0 (.slice none 0 0) [] l :=
  ⟨Own32.nil w _, rfl, h, rfl, fun _ _ => rfl, rfl, by simp, by rw [Bt.fc_zero]; omega, Chg.refl _ _, Nat.zero_le _⟩

theorem Grabbed.next {w wr : World} {q p wb : Nat} {l : List Bool} {k j f : Nat} {v : Value} {got : List Nat} {l' : List Bool} (h : Grabbed w wr q p wb l k j f v got l') (hj : j < k) :
    ∃ i, Bt.first l' f false = some i ∧ i < l.length ∧ f ≤ i ∧ setE l' (i : Int) = 0 ∧ setL l' (i : Int) = l'.set i true ∧ Bt.first l f false = some i := by
  have e := Bt.first_congr (b := false) h.same h.from_
  cases hf : Bt.first l f false with
  | none =>
    have h1 := Bt.fc_none hf
    have h2 := h.room
    omega
  | some i =>
    rw [hf] at e
    obtain ⟨h1, h2, h3, h4⟩ := Bt.first_some.1 e
    have h5 := h.same
    refine ⟨i, e, by omega, h2, ?_, ?_, rfl⟩
    · unfold setE; rw [if_neg (by omega), show (i : Int).toNat = i from rfl, h3]; rfl
    · unfold setL; rw [if_neg (by omega)]; rfl

theorem Grabbed.step {w wr w1 w2 w3 : World} {q p wb : Nat} {l : List Bool} {k j f i : Nat} {v v1 : Value} {got : List Nat} {l' : List Bool} (h : Grabbed w wr q p wb l k j f v got l') (h0 : IsPool w q p wb l) (hj : j < k)
    (hi : Bt.first l f false = some i) (hs : Still wr w1) (hr : IsRow w2 p wb (l'.set i true)) (hc : Chg (fun i => i = p ∨ i = wb) w1 w2)
    (ho : Own32 w3 w.heap.size v1 (got ++ [i])) (hc3 : Chg (fun k => v.ownBlock = some k) w2 w3) : Grabbed w w3 q p wb l k (j + 1) (i + 1) v1 (got ++ [i]) (l'.set i true) := by
  have h1 := Bt.first_some.1 hi
  have hlt := h0.lt
  have hsz := h.chg.size
  have hfar : ∀ b, b < w.heap.size → ¬ v.ownBlock = some b := fun b hb e => by have := h.own.block b e; omega
  have hp1 := (h.pool.still hs).row hr hc
  have hp2 := hp1.chg hc3 (hfar _ hlt.1) (hfar _ hlt.2.1) (hfar _ hlt.2.2)
  refine ⟨ho, by simp [h.len], hp2, by simpa using h.same, fun x hx => ?_, ?_, ?_, ?_, ?_, by omega⟩
  · rw [Bt.getD_set_ne _ _ _ _ (by omega)]
    exact h.from_ x (by omega)
  · rw [Bt.setAll_snoc, ← h.all]
  · rw [h.gr, show k - j = (k - (j + 1)) + 1 by omega, Bt.gr_some hi]; simp
  · have h2 := h.room
    rw [Bt.fc_some hi] at h2
    omega
  · exact ((h.chg.trans (hs.mono (fun _ h => h.elim))).trans hc).then hc3 (fun b hb => .inr (h.own.block b hb))

theorem Own32.still {w w' : World} {base : Nat} {v : Value} {xs : List Nat} {S : Nat → Prop} (h : Own32 w base v xs) (hc : Chg S w w') (hS : ∀ k, S k → k < base) : Own32 w' base v xs :=
  hc.own h (fun k hk hs => by have := (h.lt k hk).1; have := hS k hs; omega)

def GrabP (w : World) (q p wb : Nat) (l : List Bool) (k : Nat) (e : Ending) (w' : World) : Prop :=
  ∃ v, e = .returned (.tuple #[v, .int .i64 0]) ∧ Own32 w' w.heap.size v (Bt.gr l 0 k) ∧ IsPool w' q p wb (Bt.setAll l (Bt.gr l 0 k)) ∧ Chg (fun i => i = p ∨ i = wb) w w'

def GrabR (w : World) (q p wb : Nat) (l : List Bool) (k : Nat) (v a c : Value) (wr : World) : Prop :=
  ∃ j f got l' v', j ≤ k ∧ c = .int .i64 (j : Nat) ∧ a = .int .i64 (f : Nat) ∧ v' = v ∧ Grabbed w wr q p wb l k j f v' got l'

set_option maxHeartbeats 1000000 in
theorem grab_ok {w : World} {q p wb : Nat} {l : List Bool} (h : IsPool w q p wb l) (hT : TabAt 0 Lib.deBruijn64tab w) (h0 : 0 ≠ p ∧ 0 ≠ wb) (k : Nat) (hk : k ≤ l.count false) :
    Calls Tryd.prog 26 #[.pointer (some ⟨q, 0, none⟩), .int .i64 k] w (GrabP w q p wb l k) := by
  have hq := h.cell
  have H := Lib.hid h
  have HT := Lib.hid hT
  have Hk := Lib.hid hk
  have hll := h.2.1.len
  have hkn : k ≤ 65536 := by have : l.count false ≤ l.length := List.count_le_length; omega
  have hcf : ((k : Int)) ≤ (l.count false : Nat) := by omega
  clear h hT hk
  generalize hc : l.count false = c at *
  have Hc := Lib.hid hc
  clear hc
  have hck : decide (c < k) = false := by simp; omega
  go_enter Tryd.func26, Tryd.ntmps26
  go_wp2_with (first | (go_at_call 46; refine (none_no _ _ _ hq).mono ?_; rintro e w' ⟨rfl, rfl⟩) | (go_at_call 29; refine (free_pool H.out).mono ?_; rintro e w1 ⟨rfl, hs1⟩; rw [Hc.out]))
  have HG : Hid (Grabbed w w1 q p wb l k 0 0 (.slice none 0 0) [] l) := by
    have hg := Grabbed.start H.out k (by rw [Hc.out]; omega)
    exact ⟨Own32.nil w1 _, rfl, H.out.still hs1, rfl, hg.from_, rfl, hg.gr, hg.room, hs1.mono (fun _ h => h.elim), hg.le⟩
  clear hs1
  go_loopw [6, 7, 22] (fun v a c wr => GrabR w q p wb l k v a c wr) (fun _ _ c _ => k - (intOf c).toNat)
  case atStart => exact ⟨0, 0, [], l, _, Nat.zero_le _, rfl, rfl, rfl, HG.out⟩
  case round =>
    clear HG
    obtain ⟨j, f, got, l', v, hj, rfl, rfl, rfl, hg⟩ := hrel
    have HG := Lib.hid hg
    clear hg
    by_cases hlt : j < k
    · obtain ⟨i, hf1, hil, hfi, hse, hsl, hf2⟩ := HG.out.next hlt
      have HF := Lib.hid (show Bt.first l' f false = some i ∧ setE l' (i : Int) = 0 ∧ setL l' (i : Int) = l'.set i true ∧ Bt.first l f false = some i from ⟨hf1, hse, hsl, hf2⟩)
      clear hf1 hse hsl hf2
      have hqr := HG.out.pool.cell
      have hTr := Lib.hid (HG.out.chg.tab HT.out (by show ¬ (0 = p ∨ 0 = wb); omega))
      go_wp2_with fail
      refine (row_free' HG.out.pool.2.1 hTr.out f).mono ?_
      rintro e w2 ⟨rfl, hs2⟩
      rw [show ((f : Int)).toNat = f from rfl, HF.out.1]
      unfold firstE
      have hq2 := hs2.cell hqr id
      have HS2 := Lib.hid hs2
      clear hs2 hqr hTr
      go_wp2_with fail
      refine (row_set (HG.out.pool.2.1.still HS2.out) i).mono ?_
      rintro e w3 ⟨rfl, hr3, hc3⟩
      rw [HF.out.2.1]
      rw [HF.out.2.2.1] at hr3
      have HO : Hid (Own32 w3 w.heap.size v got) := by
        have hlt := H.out.lt
        exact (HG.out.own.still HS2.out (fun _ h => h.elim)).still hc3 (fun b hb => by rcases hb with rfl | rfl <;> omega)
      have HR := Lib.hid (show IsRow w3 p wb (l'.set i true) ∧ Chg (fun i => i = p ∨ i = wb) w2 w3 from ⟨hr3, hc3⟩)
      have hsz : w.heap.size ≤ w3.heap.size := Nat.le_trans HG.out.chg.size (Nat.le_trans HS2.out.size hc3.size)
      have hgl : got.length ≤ 1000000 := by have := HG.out.len; omega
      clear hr3 hc3 hq2
      go_wp2_with (at_builtin; refine append32 rfl _ _ i v rfl w.heap.size got rfl rfl HO.out hsz hgl ?_; intro v1 w4 ho4 hc4)
      have HG2 : Hid (Grabbed w w4 q p wb l k (j + 1) (i + 1) v1 (got ++ [i]) (l'.set i true)) := HG.out.step H.out hlt HF.out.2.2.2 HS2.out HR.out.1 HR.out.2 ho4 hc4
      clear ho4 hc4 HG HR HO
      go_wp2
      go_roundw
      case rel => exact ⟨j + 1, i + 1, _, _, _, by omega, by go_num, by go_num, rfl, HG2.out⟩
      case measure => simp [intOf]; omega
    · go_wp2
      go_ret2
      have hjk : j = k := by omega
      subst hjk
      have e1 := HG.out.gr
      rw [Nat.sub_self, Bt.gr_zero, List.append_nil] at e1
      exact ⟨v, rfl, by rw [e1]; exact HG.out.own, by rw [e1, ← HG.out.all]; exact HG.out.pool, HG.out.chg⟩

theorem grab_neg {w : World} {q p wb : Nat} {l : List Bool} (h : IsPool w q p wb l) (k : Int) (hk : k < 0) :
    Calls Tryd.prog 26 #[.pointer (some ⟨q, 0, none⟩), .int .i64 k] w fun e w' => e = .returned (.tuple #[.slice none 0 0, .int .i64 2]) ∧ w = w' := by
  have hq := h.cell
  clear h
  go_enter Tryd.func26, Tryd.ntmps26
  go_wp2_with (first | (go_at_call 46; refine (none_no _ _ _ hq).mono ?_; rintro e w' ⟨rfl, rfl⟩))
  go_ret2
  exact ⟨rfl, rfl⟩
theorem grab_full {w : World} {q p wb : Nat} {l : List Bool} (h : IsPool w q p wb l) (k : Int) (hk0 : 0 ≤ k) (hk : (l.count false : Nat) < k) :
    Calls Tryd.prog 26 #[.pointer (some ⟨q, 0, none⟩), .int .i64 k] w fun e w' => e = .returned (.tuple #[.slice none 0 0, .int .i64 11]) ∧ Still w w' := by
  have hq := h.cell
  have H := Lib.hid h
  clear h
  generalize hc : l.count false = c at *
  have Hc := Lib.hid hc
  clear hc
  go_enter Tryd.func26, Tryd.ntmps26
  go_wp2_with (first | (go_at_call 46; refine (none_no _ _ _ hq).mono ?_; rintro e w' ⟨rfl, rfl⟩) | (go_at_call 29; refine (free_pool H.out).mono ?_; rintro e w1 ⟨rfl, hs1⟩; rw [Hc.out]))
  go_ret2
  exact ⟨rfl, hs1⟩

theorem take_full {w : World} {q p wb : Nat} {l : List Bool} (h : IsPool w q p wb l) (hf : l.count false = 0) :
    Calls Tryd.prog 25 #[.pointer (some ⟨q, 0, none⟩)] w fun e w' => e = .returned (.tuple #[.int .u32 0, .int .i64 11]) ∧ Still w w' := by
  have H := Lib.hid h
  have HF := Lib.hid hf
  clear h hf
  go_enter Tryd.func25, Tryd.ntmps25
  go_wp2_with (go_at_call 26; refine (grab_full H.out 1 (by decide) (by rw [HF.out]; decide)).mono ?_; rintro e w1 ⟨rfl, hs1⟩)
  go_ret2
  exact ⟨rfl, hs1⟩
def TakeP (w : World) (q p wb : Nat) (l : List Bool) (i : Nat) (e : Ending) (w' : World) : Prop :=
  e = .returned (.tuple #[.int .u32 (i : Nat), .int .i64 0]) ∧ IsPool w' q p wb (l.set i true) ∧ Chg (fun i => i = p ∨ i = wb) w w'
theorem Own32.first {w : World} {base : Nat} {v : Value} {i : Nat} (h : Own32 w base v [i]) : ∃ g c, v = .slice (some ⟨g, 0, none⟩) 1 c ∧ w.cell? ⟨g, 0, none⟩ = some (.int .u32 (i : Nat)) := by
  unfold Own32 at h
  rcases h.2 with ⟨rfl, h0⟩ | ⟨g, cap, cur, rfl, _⟩
  · simp at h0
  · refine ⟨g, cap, rfl, ?_⟩
    rw [World.ownsRow.cellAt h 0 (by simp)]
    rfl
theorem take_ok {w : World} {q p wb : Nat} {l : List Bool} (h : IsPool w q p wb l) (hT : TabAt 0 Lib.deBruijn64tab w) (h0 : 0 ≠ p ∧ 0 ≠ wb) (i : Nat) (hi : Bt.first l 0 false = some i) :
    Calls Tryd.prog 25 #[.pointer (some ⟨q, 0, none⟩)] w (TakeP w q p wb l i) := by
  have hk : 1 ≤ l.count false := by rw [← Bt.fc_zero, Bt.fc_some hi]; omega
  have hg : Bt.gr l 0 1 = [i] := by rw [Bt.gr_some hi, Bt.gr_zero]
  have H := Lib.hid (show IsPool w q p wb l ∧ TabAt 0 Lib.deBruijn64tab w ∧ 1 ≤ l.count false ∧ Bt.gr l 0 1 = [i] from ⟨h, hT, hk, hg⟩)
  clear h hT hi hk hg
  go_enter Tryd.func25, Tryd.ntmps25
  go_wp2_with fail
  refine (grab_ok H.out.1 H.out.2.1 h0 1 H.out.2.2.1).mono ?_
  rintro e w1 ⟨v, rfl, ho, hp, hc⟩
  rw [H.out.2.2.2] at ho hp
  obtain ⟨g, c, rfl, hcell⟩ := ho.first
  have HP := Lib.hid (show IsPool w1 q p wb (l.set i true) ∧ Chg (fun i => i = p ∨ i = wb) w w1 from ⟨hp, hc⟩)
  clear ho hp hc
  go_wp2
  go_ret2
  exact ⟨rfl, HP.out⟩

def RowP (w : World) (l : List Bool) (e : Ending) (w' : World) : Prop := ∃ v, e = .returned v ∧ Own32 w' w.heap.size v (Bt.tf l 0) ∧ Still w w'
/-- What Row has gathered: the taken places below f; the next one is at hand. -/
structure Rowed (w wr : World) (l : List Bool) (f : Nat) (v i ok : Value) (got : List Nat) : Prop where
  own : Own32 wr w.heap.size v got
  all : Bt.tf l 0 = got ++ Bt.tf l f
  chg : Still w wr
  at_ : ∃ x o, i = .int .i64 x ∧ ok = .bool o ∧ firstE (Bt.first l f true) = .returned (.tuple #[.int .i64 x, .bool o])
def RowR (w : World) (l : List Bool) (v i ok : Value) (wr : World) : Prop := ∃ f got v' i' ok', v' = v ∧ i' = i ∧ ok' = ok ∧ Rowed w wr l f v' i' ok' got
theorem firstE_cases {l : List Bool} {b : Bool} {f : Nat} {x : Int} {o : Bool} (h : firstE (Bt.first l f b) = .returned (.tuple #[.int .i64 x, .bool o])) :
    (o = false ∧ Bt.first l f b = none) ∨ (o = true ∧ ∃ i : Nat, x = i ∧ Bt.first l f b = some i) := by
  cases hf : Bt.first l f b with
  | none =>
    rw [hf] at h
    simp only [firstE, Ending.returned.injEq, Value.tuple.injEq, Array.mk.injEq, List.cons.injEq, Value.bool.injEq] at h
    exact .inl ⟨h.2.1.symm, rfl⟩
  | some i =>
    rw [hf] at h
    simp only [firstE, Ending.returned.injEq, Value.tuple.injEq, Array.mk.injEq, List.cons.injEq, Value.bool.injEq, Value.int.injEq] at h
    exact .inr ⟨h.2.1.symm, i, h.1.2.symm, rfl⟩
theorem firstE_is (r : Option Nat) : ∃ (x : Int) (ok : Bool), firstE r = .returned (.tuple #[.int .i64 x, .bool ok]) := by
  cases r
  · exact ⟨_, _, rfl⟩
  · exact ⟨_, _, rfl⟩
def boolV : Value → Bool | .bool b => b | _ => false

set_option maxHeartbeats 1000000 in
theorem row_pool {w : World} {q p wb : Nat} {l : List Bool} (h : IsPool w q p wb l) (hT : TabAt 0 Lib.deBruijn64tab w) :
    Calls Tryd.prog 37 #[.pointer (some ⟨q, 0, none⟩)] w (RowP w l) := by
  have hq := h.cell
  have H := Lib.hid h
  have HT := Lib.hid hT
  have hll := h.2.1.len.2
  clear h hT
  obtain ⟨x0, o0, e0⟩ := firstE_is (Bt.first l 0 true)
  have E0 := Lib.hid e0
  clear e0
  go_enter Tryd.func37, Tryd.ntmps37
  go_wp2_with (first | (go_at_call 46; refine (none_no _ _ _ hq).mono ?_; rintro e w' ⟨rfl, rfl⟩) | (go_at_call 11; refine (row_next' H.out.2.1 HT.out 0).mono ?_; rintro e w1 ⟨rfl, hs1⟩; rw [show ((0 : Int)).toNat = 0 from rfl, E0.out]))
  have HG : Hid (Rowed w w1 l 0 (.slice none 0 0) (.int .i64 x0) (.bool o0) []) := ⟨Own32.nil w1 _, by simp, hs1, _, _, rfl, rfl, E0.out⟩
  clear hs1
  go_loopw [3, 4, 5] (fun v i ok wr => RowR w l v i ok wr) (fun _ i ok _ => if boolV ok then l.length + 1 - (intOf i).toNat else 0)
  case atStart => exact ⟨0, [], _, _, _, rfl, rfl, rfl, HG.out⟩
  case round =>
    clear HG
    obtain ⟨f, got, v, i', ok', rfl, rfl, rfl, hg⟩ := hrel
    obtain ⟨ho, hall, hc, x, o, rfl, rfl, he⟩ := hg
    have HG := Lib.hid (show Own32 wr w.heap.size v got ∧ Bt.tf l 0 = got ++ Bt.tf l f ∧ Still w wr from ⟨ho, hall, hc⟩)
    have hgl : got.length ≤ 1000000 := by have := Bt.tf_len l 0; rw [hall, List.length_append] at this; omega
    have hsz := hc.size
    have hqr := hc.cell hq id
    clear ho hall hc
    rcases firstE_cases he with ⟨rfl, hnone⟩ | ⟨rfl, i, rfl, hsome⟩
    · clear he
      have HN := Lib.hid hnone
      clear hnone
      go_wp2
      go_ret
      exact ⟨v, rfl, by have e1 := HG.out.2.1; rw [Bt.tf_none HN.out, List.append_nil] at e1; rw [e1]; exact HG.out.1, HG.out.2.2⟩
    · clear he
      have HS := Lib.hid hsome
      have hil := (Bt.first_some.1 hsome).1
      clear hsome
      have hltq := H.out.lt
      have Hfar : Hid (∀ b, b < w.heap.size → ¬ v.ownBlock = some b) := fun b hb e => by have := HG.out.1.block b e; omega
      go_wp2_with (at_builtin; refine append32 rfl _ _ i v rfl w.heap.size got rfl rfl HG.out.1 hsz hgl ?_; intro v1 w4 ho4 hc4; have hq4 := hc4.cell hqr (Hfar.out _ hltq.1))
      have hfar := Hfar.out
      have HR : Hid (IsRow w4 p wb l) := (H.out.2.1.still HG.out.2.2).chg hc4 (hfar _ hltq.2.1) (hfar _ hltq.2.2)
      have HT4 : Hid (TabAt 0 Lib.deBruijn64tab w4) := hc4.tab (HG.out.2.2.tab HT.out id) (hfar _ (tab_lt HT.out))
      have HC : Hid (Still w w4) := HG.out.2.2.then hc4 (fun b hb => .inr (HG.out.1.block b hb))
      have HO := Lib.hid ho4
      clear hfar hc4 ho4 hqr
      obtain ⟨x2, o2, e2⟩ := firstE_is (Bt.first l (i + 1) true)
      have E2 := Lib.hid e2
      clear e2
      go_wp2_with fail
      refine (row_next' HR.out HT4.out ((i : Int) + 1)).mono ?_
      rintro e w5 ⟨rfl, hs5⟩
      rw [show ((i : Int) + 1).toNat = i + 1 by omega, E2.out]
      have HG5 : Hid (Rowed w w5 l (i + 1) v1 (.int .i64 x2) (.bool o2) (got ++ [i])) := ⟨HO.out.still hs5 (fun _ h => h.elim), by rw [HG.out.2.1, Bt.tf_some HS.out]; simp, HC.out.trans hs5, _, _, rfl, rfl, E2.out⟩
      clear hs5
      have H2 : Hid (o2 = true → ∃ i2 : Nat, x2 = i2 ∧ i + 1 ≤ i2) := fun ho => by
        rcases firstE_cases E2.out with ⟨h5, _⟩ | ⟨_, i2, h5, h6⟩
        · rw [h5] at ho; cases ho
        · exact ⟨i2, h5, (Bt.first_some.1 h6).2.1⟩
      go_wp2
      go_roundw
      case rel => exact ⟨i + 1, _, _, _, _, rfl, rfl, rfl, HG5.out⟩
      case measure =>
        cases o2 with
        | false => simp [boolV, intOf]; omega
        | true =>
          obtain ⟨i2, h5, h6⟩ := H2.out rfl
          subst h5
          simp [boolV, intOf]; omega
end Go.Proofs.YtliamjhjdoakcaaDoor
