/- Maps whose keys are whole numbers: what each operation does to the list of keys and values. No program in sight. -/
import Derived.Test.YtliamjhjdoakcaaDoorWl
namespace Go.Proofs.YtliamjhjdoakcaaDoor
open Go Go.RowKit
set_option linter.unusedVariables false
set_option linter.unusedSimpArgs false

/-- The heap with another object at a block. -/
def putObj (w : World) (b : Nat) (o : Obj) : World := { w with heap := w.heap.setIfInBounds b o }
theorem putObj_chg (w : World) (b : Nat) (o : Obj) : Chg (fun k => k = b) w (putObj w b o) :=
  ⟨rfl, rfl, rfl, by simp [putObj], fun k _ hn => by simp only [putObj, Array.getElem?_setIfInBounds]; rw [if_neg (fun e => hn e.symm)]⟩

/-- Block b is a map: the keys (of kind k) and values, in the order in which they came. -/
def IMap (w : World) (b : Nat) (k : IntKind) (m : List (Int × Value)) : Prop :=
  ∃ es clock, w.heap[b]? = some (.map es clock) ∧ es.toList.map (fun e => (e.key, e.val)) = m.map (fun x => (Value.int k x.1, x.2)) ∧ (m.map (·.1)).Nodup

theorem IMap.chg {w w' : World} {b : Nat} {k : IntKind} {m : List (Int × Value)} {S : Nat → Prop} (h : IMap w b k m) (hc : Chg S w w') (hb : ¬ S b) : IMap w' b k m := by
  obtain ⟨es, clock, h1, h2⟩ := h
  exact ⟨es, clock, hc.heap h1 hb, h2⟩
theorem IMap.lt {w : World} {b : Nat} {k : IntKind} {m : List (Int × Value)} (h : IMap w b k m) : b < w.heap.size := by
  obtain ⟨es, clock, h1, h2⟩ := h
  exact heap_lt h1
theorem IMap.new (w : World) (k : IntKind) : IMap (w.alloc (.map #[] 0)) w.heap.size k [] := ⟨#[], 0, heap_alloc_new w _, rfl, List.nodup_nil⟩

/-- Where a key is, and what it has. -/
def findM (x : Int) : List (Int × Value) → Nat → Option (Nat × Value)
  | [], _ => none
  | (y, v) :: r, i => if x == y then some (i, v) else findM x r (i + 1)
def getM (m : List (Int × Value)) (x : Int) : Option Value := (m.find? fun p => x == p.1).map (·.2)
def putM (m : List (Int × Value)) (x : Int) (v : Value) : List (Int × Value) := if (getM m x).isSome then m.map (fun p => if x == p.1 then (x, v) else p) else m ++ [(x, v)]
def cutM (m : List (Int × Value)) (x : Int) : List (Int × Value) := m.filter fun p => !(x == p.1)

theorem findM_getM (x : Int) : ∀ (m : List (Int × Value)) (i : Nat), (findM x m i).map (·.2) = getM m x
  | [], _ => rfl
  | (y, v) :: r, i => by
    unfold findM getM
    by_cases h : (x == y) = true
    · simp [h]
    · simp only [h, List.find?_cons]
      have := findM_getM x r (i + 1)
      unfold getM at this
      simpa using this

theorem findNow_int (k : IntKind) (x : Int) : ∀ (es : List MapEntry) (m : List (Int × Value)) (i : Nat), es.map (fun e => (e.key, e.val)) = m.map (fun x => (Value.int k x.1, x.2)) →
    Instr.findNow (.int k) (.int k x) es i = some (findM x m i)
  | [], [], i, _ => rfl
  | [], _ :: _, _, h => by simp at h
  | _ :: _, [], _, h => by simp at h
  | e :: es, (y, v) :: m, i, h => by
    simp only [List.map_cons, List.cons.injEq, Prod.mk.injEq] at h
    obtain ⟨⟨h1, h2⟩, h3⟩ := h
    have ih := findNow_int k x es m (i + 1) h3
    unfold Instr.findNow findM
    rw [h1]
    simp only [Instr.sameNow, if_true]
    by_cases hxy : x = y
    · subst hxy; simp [h2]
    · have : (x == y) = false := beq_eq_false_iff_ne.2 hxy
      simp [this, ih]

section
variable {P : Program}
theorem run_findKey (kt : TypeId) (k : IntKind) (hk : P.underlying kt = some (.int k)) (x : Int) (es : List MapEntry) (m : List (Int × Value)) (h : es.map (fun e => (e.key, e.val)) = m.map (fun x => (Value.int k x.1, x.2))) (w : World) :
    (Instr.findKey kt (.int k x) es).run P w = .ok (findM x m 0) w := by
  unfold Instr.findKey
  simp [run_underlying hk, findNow_int k x es m 0 h]
theorem run_checkKey (kt : TypeId) (k : IntKind) (hk : P.underlying kt = some (.int k)) (x : Int) (b : Bool) (w : World) : (Instr.checkKey b 10000 kt (.int k x)).run P w = .ok () w := by
  unfold Instr.checkKey
  simp [run_underlying hk]

theorem run_get_map {w : World} {b : Nat} {es : Array MapEntry} {clock : Nat} (h : w.heap[b]? = some (.map es clock)) : (getObj b : Sem Obj).run P w = .ok (.map es clock) w := by
  unfold getObj
  simp only [Sem.run, h]

theorem run_lookup_imap {t kt et : TypeId} {k : IntKind} (ht : P.underlying t = some (.map kt et)) (hk : P.underlying kt = some (.int k)) {z : Value} (hz : ∀ w, (zeroValue et).run P w = .ok z w) {w : World} {b : Nat} {m : List (Int × Value)} (h : IMap w b k m) (x : Int) :
    (Instr.lookup t (.map (some b)) (.int k x) false).run P w = .ok ((getM m x).getD z) w := by
  obtain ⟨es, clock, h1, h2, h3⟩ := h
  unfold Instr.lookup
  rw [← findM_getM x m 0]
  simp only [Sem.run_bind, run_underlying ht, Result.andThen_ok, run_get_map h1, Sem.run_pure, run_checkKey kt k hk, run_findKey kt k hk x es.toList m h2]
  cases findM x m 0 with
  | none => simp [hz]
  | some q => simp
theorem run_lookup_ok_imap {t kt et : TypeId} {k : IntKind} (ht : P.underlying t = some (.map kt et)) (hk : P.underlying kt = some (.int k)) {z : Value} (hz : ∀ w, (zeroValue et).run P w = .ok z w) {w : World} {b : Nat} {m : List (Int × Value)} (h : IMap w b k m) (x : Int) :
    (Instr.lookup t (.map (some b)) (.int k x) true).run P w = .ok (.tuple #[(getM m x).getD z, .bool (getM m x).isSome]) w := by
  obtain ⟨es, clock, h1, h2, h3⟩ := h
  unfold Instr.lookup
  rw [← findM_getM x m 0]
  simp only [Sem.run_bind, run_underlying ht, Result.andThen_ok, run_get_map h1, Sem.run_pure, run_checkKey kt k hk, run_findKey kt k hk x es.toList m h2]
  cases findM x m 0 with
  | none => simp [hz]
  | some q => simp
end

theorem findM_some (x : Int) (v : Value) : ∀ (m : List (Int × Value)) (i j : Nat), (m.map (·.1)).Nodup → findM x m i = some (j, v) → i ≤ j ∧ j - i < m.length ∧ (∀ q, q < m.length → (m[q]?.map (·.1) = some x ↔ q = j - i))
  | [], _, _, _, h => by simp [findM] at h
  | (y, u) :: r, i, j, hn, h => by
    simp only [List.map_cons, List.nodup_cons, List.mem_map, not_exists, not_and] at hn
    unfold findM at h
    by_cases hxy : x = y
    · subst hxy
      simp only [beq_self_eq_true, if_true, Option.some.injEq, Prod.mk.injEq] at h
      obtain ⟨rfl, rfl⟩ := h
      refine ⟨Nat.le_refl _, by simp, fun q hq => ?_⟩
      cases q with
      | zero => simp
      | succ q =>
        simp only [List.getElem?_cons_succ]
        constructor
        · intro h
          cases hr : r[q]? with
          | none => rw [hr] at h; simp at h
          | some p =>
            rw [hr] at h
            simp only [Option.map_some, Option.some.injEq] at h
            exact absurd h (hn.1 p (List.mem_of_getElem? hr))
        · intro h; omega
    · have hb : (x == y) = false := beq_eq_false_iff_ne.2 hxy
      rw [hb] at h
      obtain ⟨h1, h2, h3⟩ := findM_some x v r (i + 1) j hn.2 (by simpa using h)
      refine ⟨by omega, by simp; omega, fun q hq => ?_⟩
      cases q with
      | zero =>
        simp only [List.getElem?_cons_zero, Option.map_some, Option.some.injEq]
        constructor
        · intro e; exact absurd e.symm hxy
        · intro e; omega
      | succ q =>
        simp only [List.getElem?_cons_succ]
        rw [h3 q (by simpa using hq)]
        omega
theorem findM_none (x : Int) : ∀ (m : List (Int × Value)) (i : Nat), findM x m i = none → ∀ p ∈ m, p.1 ≠ x
  | [], _, _ => by simp
  | (y, u) :: r, i, h => by
    unfold findM at h
    by_cases hxy : x = y
    · subst hxy; simp at h
    · have hb : (x == y) = false := beq_eq_false_iff_ne.2 hxy
      rw [hb] at h
      have ih := findM_none x r (i + 1) (by simpa using h)
      intro p hp
      simp only [List.mem_cons] at hp
      rcases hp with rfl | hp
      · exact fun e => hxy e.symm
      · exact ih p hp

theorem getM_none_iff (m : List (Int × Value)) (x : Int) : getM m x = none ↔ ∀ p ∈ m, p.1 ≠ x := by
  unfold getM
  simp only [Option.map_eq_none_iff, List.find?_eq_none, beq_iff_eq]
  exact ⟨fun h p hp e => h p hp e.symm, fun h p hp e => h p hp e.symm⟩

theorem putM_keys (m : List (Int × Value)) (x : Int) (v : Value) : (putM m x v).map (·.1) = if (getM m x).isSome then m.map (·.1) else m.map (·.1) ++ [x] := by
  unfold putM
  split
  · rw [List.map_map]
    apply List.map_congr_left
    intro p hp
    simp only [Function.comp]
    by_cases h : x = p.1
    · simp [h]
    · simp [h]
  · simp
theorem putM_nodup {m : List (Int × Value)} (hn : (m.map (·.1)).Nodup) (x : Int) (v : Value) : ((putM m x v).map (·.1)).Nodup := by
  rw [putM_keys]
  split
  · exact hn
  · rename_i h
    have h' : getM m x = none := by cases hg : getM m x <;> simp_all
    rw [getM_none_iff] at h'
    rw [List.nodup_append]
    refine ⟨hn, by simp, fun a ha b hb => ?_⟩
    simp only [List.mem_map] at ha
    obtain ⟨p, hp, rfl⟩ := ha
    simp only [List.mem_singleton] at hb
    subst hb
    exact h' p hp
theorem getM_putM (m : List (Int × Value)) (x : Int) (v : Value) (y : Int) : getM (putM m x v) y = if y = x then some v else getM m y := by
  unfold putM
  split
  · rename_i h
    unfold getM at *
    induction m with
    | nil => simp at h
    | cons p r ih =>
      simp only [List.map_cons, List.find?_cons]
      by_cases hyx : y = x
      · subst hyx
        by_cases hp : (y == p.1) = true
        · simp [hp]
        · simp only [hp]
          have hr : ((r.find? fun q => y == q.1).map (·.2)).isSome = true := by simpa [List.find?_cons, hp] using h
          have := ih hr
          simp only [if_true] at this ⊢
          simpa [hp] using this
      · simp only [hyx, if_false]
        by_cases hp : (x == p.1) = true
        · have e : x = p.1 := by simpa using hp
          have h1 : (y == x) = false := beq_eq_false_iff_ne.2 hyx
          have h2 : (y == p.1) = false := by rw [← e]; exact h1
          simp only [hp, if_true, h1, h2]
          clear ih h
          induction r with
          | nil => rfl
          | cons q r ih2 =>
            simp only [List.map_cons, List.find?_cons]
            by_cases hq : (x == q.1) = true
            · have e2 : x = q.1 := by simpa using hq
              have h3 : (y == q.1) = false := by rw [← e2]; exact h1
              simp only [hq, if_true, h1, h3]
              exact ih2
            · simp only [hq]
              by_cases hyq : (y == q.1) = true
              · simp [hyq]
              · simp only [hyq, Bool.false_eq_true, if_false]
                exact ih2
        · have hr : ((r.find? fun q => x == q.1).map (·.2)).isSome = true := by simpa [List.find?_cons, hp] using h
          have := ih hr
          simp only [hyx, if_false] at this
          simp only [hp, Bool.false_eq_true, if_false]
          by_cases hyp : (y == p.1) = true
          · simp [hyp]
          · simp only [hyp, Bool.false_eq_true]
            exact this
  · rename_i h
    have h' : getM m x = none := by cases hg : getM m x <;> simp_all
    rw [getM_none_iff] at h'
    unfold getM
    rw [List.find?_append]
    by_cases hyx : y = x
    · subst hyx
      have : m.find? (fun p => y == p.1) = none := by
        rw [List.find?_eq_none]
        intro p hp e
        exact h' p hp (by simpa using (by simpa using e : y = p.1).symm)
      simp [this]
    · simp only [hyx, if_false]
      have : (y == x) = false := beq_eq_false_iff_ne.2 hyx
      cases hf : m.find? (fun p => y == p.1) <;> simp [this]
theorem putM_length (m : List (Int × Value)) (x : Int) (v : Value) : (putM m x v).length = if (getM m x).isSome then m.length else m.length + 1 := by
  unfold putM; split <;> simp

section
variable {P : Program}
theorem run_set_map {w : World} {b : Nat} {es : Array MapEntry} {clock : Nat} (h : w.heap[b]? = some (.map es clock)) (o : Obj) : (setObj b o : Sem Unit).run P w = .ok () (putObj w b o) := by
  unfold setObj
  simp only [Sem.run, h]
  rfl
theorem putObj_heap {w : World} {b : Nat} {o' : Obj} (h : w.heap[b]? = some o') (o : Obj) : (putObj w b o).heap[b]? = some o := by
  have hlt := heap_lt h
  simp [putObj, hlt]

theorem modify_entries {es : Array MapEntry} {k : IntKind} {m : List (Int × Value)} {x : Int} {i : Nat} {u v : Value} (h : es.toList.map (fun e => (e.key, e.val)) = m.map (fun x => (Value.int k x.1, x.2))) (hn : (m.map (·.1)).Nodup) (hf : findM x m 0 = some (i, u)) :
    (es.modify i fun e => { e with key := .int k x, val := v }).toList.map (fun e => (e.key, e.val)) = (putM m x v).map (fun x => (Value.int k x.1, x.2)) := by
  obtain ⟨_, hlt, hq⟩ := findM_some x u m 0 i hn hf
  have hlen : es.toList.length = m.length := by have := congrArg List.length h; simpa using this
  have hg : (getM m x).isSome = true := by rw [← findM_getM x m 0, hf]; rfl
  unfold putM
  rw [if_pos hg]
  apply List.ext_getElem?
  intro j
  have hj := congrArg (fun l => l[j]?) h
  simp only [List.getElem?_map] at hj
  simp only [List.getElem?_map, Array.toList_modify, List.getElem?_modify]
  by_cases hjl : j < m.length
  · have h3 := hq j hjl
    have hes : j < es.toList.length := by omega
    rw [List.getElem?_eq_getElem hjl] at h3 hj ⊢
    rw [List.getElem?_eq_getElem hes] at hj ⊢
    simp only [Option.map_some, Option.some.injEq, Nat.sub_zero, Prod.mk.injEq] at h3 hj ⊢
    by_cases hij : i = j
    · subst hij
      have := h3.2 rfl
      simp [this]
    · have h4 : ¬ (m[j]).1 = x := fun e => hij (h3.1 e).symm
      have h5 : (x == (m[j]).1) = false := beq_eq_false_iff_ne.2 (fun e => h4 e.symm)
      simp only [hij, h5, if_false, Bool.false_eq_true]
      simpa using hj
  · rw [List.getElem?_eq_none (show m.length ≤ j by omega), List.getElem?_eq_none (show es.toList.length ≤ j by omega)]
    simp

theorem run_update_imap {t kt et : TypeId} {k : IntKind} (ht : P.underlying t = some (.map kt et)) (hk : P.underlying kt = some (.int k)) {w : World} {b : Nat} {m : List (Int × Value)} (h : IMap w b k m) (x : Int) (v : Value) :
    ∃ w', (Instr.mapUpdate t (.map (some b)) (.int k x) v).run P w = .ok () w' ∧ IMap w' b k (putM m x v) ∧ Chg (fun q => q = b) w w' := by
  obtain ⟨es, clock, h1, h2, h3⟩ := h
  unfold Instr.mapUpdate
  simp only [Sem.run_bind, run_underlying ht, Result.andThen_ok, run_get_map h1, run_checkKey kt k hk, run_findKey kt k hk x es.toList m h2]
  cases hf : findM x m 0 with
  | none =>
    refine ⟨putObj w b (.map (es.push { key := .int k x, val := v, born := clock }) (clock + 1)), run_set_map h1 _, ⟨_, _, putObj_heap h1 _, ?_, putM_nodup h3 x v⟩, putObj_chg w b _⟩
    have hg : ¬ (getM m x).isSome = true := by rw [← findM_getM x m 0, hf]; simp
    unfold putM
    rw [if_neg hg]
    simp [h2]
  | some q =>
    obtain ⟨i, u⟩ := q
    have hkey : (es[i]?.map (·.key)).getD (.int k x) = .int k x := by
      obtain ⟨_, hlt, hq⟩ := findM_some x u m 0 i h3 hf
      have hj := congrArg (fun l => l[i]?) h2
      simp only [List.getElem?_map] at hj
      have h4 := (hq i (by omega)).2 (by omega)
      rw [List.getElem?_eq_getElem (show i < m.length by omega)] at hj h4
      simp only [Option.map_some, Option.some.injEq] at h4
      cases he : es[i]? with
      | none => rfl
      | some e =>
        rw [Array.getElem?_toList, he] at hj
        simp only [Option.map_some, Option.some.injEq, Prod.mk.injEq] at hj ⊢
        rw [hj.1, h4]; rfl
    refine ⟨putObj w b (.map (es.modify i fun e => { e with key := .int k x, val := v }) clock), ?_, ⟨_, _, putObj_heap h1 _, modify_entries h2 h3 hf, putM_nodup h3 x v⟩, putObj_chg w b _⟩
    simp only [hkey, Instr.keyThatStays, Instr.sameBits, beq_self_eq_true, Bool.and_self, if_true, Sem.run_bind, Sem.run_pure, Result.andThen_ok]
    exact run_set_map h1 _

theorem run_len_imap {t kt et : TypeId} {ty : TypeId} (ht : P.underlying t = some (.map kt et)) {w : World} {b : Nat} {k : IntKind} {m : List (Int × Value)} (h : IMap w b k m) :
    (Builtin.len_ #[t] ty #[.map (some b)]).run P w = .ok (.int .i64 m.length) w := by
  obtain ⟨es, clock, h1, h2, h3⟩ := h
  have hlen : es.size = m.length := by have := congrArg List.length h2; simpa using this
  unfold Builtin.len_
  simp [run_underlying ht, run_get_map h1, goInt, hlen]
end
end Go.Proofs.YtliamjhjdoakcaaDoor
