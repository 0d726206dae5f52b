/- Taking messages of a span. -/
import Derived.Test.YtekoibglogoaaaaDd
import Derived.Deep.RegionHeld3
namespace Go.Proofs.Ytekoibglogoaaaa
open Go Go.RowKit Go.Shelf
set_option linter.unusedVariables false
set_option linter.unusedSimpArgs false

/-- How many are taken. -/
def takeT (s : Sp) (xs : List Msg) (most : Int) : Nat := min (partB s xs - partA s xs) most.toNat
def taken (s : Sp) (xs : List Msg) (most : Int) : List Msg := (xs.drop (partA s xs)).take (takeT s xs most)
def restOf (s : Sp) (xs : List Msg) (most : Int) : List Msg := xs.take (partA s xs) ++ xs.drop (partA s xs + takeT s xs most)
def TakeP (s : Sp) (xs : List Msg) (most : Int) (w : World) (e : Ending) (w' : World) : Prop :=
  ∃ v1 v2, e = .returned (.tuple #[v1, v2]) ∧ SlF w.heap.size encM 3 w' v1 (taken s xs most) ∧ SlF w.heap.size encM 3 w' v2 (restOf s xs most) ∧ Still w w'
/-- A part of a slice. -/
theorem Sl.cut {α : Type} {enc : α → List Value} {sz : Nat} {w : World} {b off n c i m c' off' : Nat} {xs : List α} (h : Sl enc sz w (.slice (some ⟨b, off, none⟩) n c) xs) (h1 : i + m ≤ xs.length) (h2 : m ≤ c') (h3 : c' ≤ 9223372036854775807) (ho : 0 < m → off' = off + i * sz) : Sl enc sz w (.slice (some ⟨b, off', none⟩) m c') ((xs.drop i).take m) := by
  have hl : ((xs.drop i).take m).length = m := by rw [List.length_take, List.length_drop]; omega
  obtain ⟨A, cap, e, q1, q2, q3⟩ := h
  simp only [Value.slice.injEq] at e
  obtain ⟨rfl, rfl, rfl⟩ := e
  refine ⟨some ⟨b, off', none⟩, c', by rw [hl], by omega, h3, fun h0 => ?_⟩
  rw [hl] at h0
  obtain ⟨b2, off2, e, hb, hx⟩ := q3 (by omega)
  simp only [Option.some.injEq, Addr.mk.injEq] at e
  obtain ⟨rfl, rfl, -⟩ := e
  refine ⟨b, off', rfl, hb, fun k x hk j u hu => ?_⟩
  rw [List.getElem?_take, List.getElem?_drop] at hk
  split at hk
  · have := hx (i + k) x hk j u hu
    rw [ho h0, show off + i * sz + k * sz + j = off + (i + k) * sz + j by rw [Nat.add_mul]; omega]
    exact this
  · simp at hk
theorem Sl.cutA {α : Type} {enc : α → List Value} {sz : Nat} {w : World} {A : Option Addr} {n c p q : Nat} {xs : List α} (h : Sl enc sz w (.slice A n c) xs) (h1 : p ≤ q) (h2 : q ≤ xs.length) : Sl enc sz w (.slice (if c = p then A else A.map (fun x => x.add (p * sz))) (q - p) (c - p)) ((xs.drop p).take (q - p)) := by
  obtain ⟨A', cap, e, q1, q2, q3⟩ := id h
  simp only [Value.slice.injEq] at e
  obtain ⟨rfl, rfl, rfl⟩ := e
  by_cases h0 : 0 < q - p
  · obtain ⟨b, off, rfl, hb, hx⟩ := q3 (by omega)
    rw [if_neg (by omega)]
    simp only [Option.map_some, Addr.add_lit]
    exact h.cut (by omega) (by omega) (by omega) (fun _ => rfl)
  · have e : (xs.drop p).take (q - p) = [] := by rw [show q - p = 0 by omega, List.take_zero]
    rw [e, show q - p = 0 by omega]
    exact ⟨_, _, rfl, Nat.zero_le _, by omega, fun h => by simp at h⟩
theorem Sl.pre {α : Type} {enc : α → List Value} {sz : Nat} {w : World} {A : Option Addr} {n c p : Nat} {xs : List α} (h : Sl enc sz w (.slice A n c) xs) (h2 : p ≤ xs.length) : Sl enc sz w (.slice A p c) (xs.take p) := by
  obtain ⟨A', cap, e, q1, q2, q3⟩ := id h
  simp only [Value.slice.injEq] at e
  obtain ⟨rfl, rfl, rfl⟩ := e
  by_cases h0 : 0 < p
  · obtain ⟨b, off, rfl, hb, hx⟩ := q3 (by omega)
    have := h.cut (i := 0) (m := p) (c' := c) (off' := off) (by omega) (by omega) (by omega) (fun _ => by omega)
    rwa [List.drop_zero] at this
  · rw [show p = 0 by omega, List.take_zero]
    exact ⟨_, _, rfl, Nat.zero_le _, by omega, fun h => by simp at h⟩
theorem Sl.nil {α : Type} {enc : α → List Value} {sz : Nat} {w : World} (A : Option Addr) (c : Nat) (h : c ≤ 9223372036854775807) : Sl enc sz w (.slice A 0 c) ([] : List α) := ⟨A, c, rfl, Nat.zero_le _, h, fun h0 => by simp at h0⟩

set_option maxRecDepth 100000 in
set_option maxHeartbeats 1000000 in
theorem take18 (s : Sp) (most : Int) (hm1 : -9223372036854775808 ≤ most) (hm2 : most ≤ 9223372036854775807) {w : World} {v : Value} {xs : List Msg} (h : Sl encM 3 w v xs) (hr : Rises Msg.k xs) (hn : xs.length ≤ 1000000) : Calls Try.prog 18 #[v, s.v, .int .i64 most] w (TakeP s xs most w) := by
  have HP : Hid (∀ w', Still w w' → Calls Try.prog 43 #[v, s.v] w' (PartP s xs w')) := Lib.hid (fun w' hs => part43 s (h.still hs) hr hn)
  have HC := Lib.hid (Cells3.new w s)
  have HW := Lib.hid (Chg.alloc (S := fun _ => False) w (.cells #[.string s.lo.1, .string s.hi.1, .bool s.top] 37))
  have hab := partA_le s xs
  have hbn := partB_le s xs
  have HT : Hid (takeT s xs most = min (partB s xs - partA s xs) most.toNat) := Lib.hid rfl
  unfold PartP Sp.v TakeP taken restOf at *
  generalize takeT s xs most = T at *
  generalize partA s xs = pa at *
  generalize partB s xs = pb at *
  have hTb : T ≤ pb - pa := by rw [HT.out]; omega
  have HE : Hid ((pa : Int) + max 0 (min ((pb : Int) - (pa : Int)) most) = ((pa + T : Nat) : Int)) := Lib.hid (by rw [HT.out]; omega)
  clear HT
  obtain ⟨q, hq⟩ : ∃ q, q = pa + T := ⟨_, rfl⟩
  obtain rfl : T = q - pa := by omega
  have hq2 : pa ≤ q := by omega
  rw [← hq] at *
  clear hq
  obtain ⟨A, c, rfl, qc1, qc2⟩ := h.form
  have H := Lib.hid h
  clear h hr
  obtain ⟨p0, p1, p2⟩ := HC.out
  go_enter Try.func18, Try.ntmps18
  go_wp2_with fail
  refine (HP.out _ HW.out).mono ?_
  rintro e w1 ⟨rfl, hs⟩
  have HW1 := Lib.hid (HW.out.trans hs)
  clear hs p0 p1 p2 HC
  go_wp2_with fail
  rw [HE.out]
  clear HE
  have b1 : (0 : Int) ≤ (pa : Int) := by omega
  have b2 : (pa : Int) ≤ (q : Int) := by omega
  have b3 : (q : Int) ≤ (c : Int) := by omega
  have b4 : (pa : Int) ≤ (c : Int) := by omega
  have b5 : (0 : Int) ≤ (q : Int) := by omega
  have b6 : (q : Int) ≤ (xs.length : Int) := by omega
  have b7 : (pa : Int) ≤ (xs.length : Int) := by omega
  refine wp_region_held_drew (S := fun w' => Still w w') (by kernel_rfl) (HW1.out.trans (Chg.drew _)) (fun hHeld => ?_)
  refine wpAnyH_take (i := 0) (oi := { dst := some 24, op := _, type := _, pos := _, after := _, guard := _ }) (v := ?_) rfl (by kernel_rfl) (by kernel_rfl) (by kernel_rfl) (fun _ _ _ h => h) (Or.inl ⟨by rfl, ?_⟩) (by assumption) ?_
  case refine_2 => intro w hSw; (try dsimp only at hSw); go_simp; all_goals (with_reducible rfl)
  try simp only [Act.put, List.setIfInBounds_toArray, List.set_cons_zero, List.set_cons_succ]
  refine wpAnyH_take (i := 1) (oi := { dst := some 25, op := _, type := _, pos := _, after := _, guard := _ }) (v := ?_) rfl (by kernel_rfl) (by kernel_rfl) (by kernel_rfl) (fun _ _ _ h => h) (Or.inl ⟨by rfl, ?_⟩) (by assumption) ?_
  case refine_2 => intro w hSw; (try dsimp only at hSw); go_simp; all_goals (with_reducible rfl)
  try simp only [Act.put, List.setIfInBounds_toArray, List.set_cons_zero, List.set_cons_succ]
  refine wpAnyH_take (i := 2) (oi := { dst := some 26, op := _, type := _, pos := _, after := _, guard := _ }) (v := ?_) rfl (by kernel_rfl) (by kernel_rfl) (by kernel_rfl) (fun _ _ _ h => h) (Or.inl ⟨by rfl, ?_⟩) (by assumption) ?_
  case refine_2 => intro w hSw; (try dsimp only at hSw); go_simp; all_goals (with_reducible rfl)
  try simp only [Act.put, List.setIfInBounds_toArray, List.set_cons_zero, List.set_cons_succ]
  refine wpAnyH_take (i := 3) (oi := { dst := some 27, op := _, type := _, pos := _, after := _, guard := _ }) (v := ?_) rfl (by kernel_rfl) (by kernel_rfl) (by kernel_rfl) (fun _ _ _ h => h) (Or.inl ⟨by rfl, ?_⟩) (by assumption) ?_
  case refine_2 => intro w hSw; (try dsimp only at hSw); go_simp; all_goals (with_reducible rfl)
  try simp only [Act.put, List.setIfInBounds_toArray, List.set_cons_zero, List.set_cons_succ]
  refine wpAnyH_take (i := 5) (oi := { dst := some 29, op := _, type := _, pos := _, after := _, guard := _ }) (v := ?_) rfl (by kernel_rfl) (by kernel_rfl) (by kernel_rfl) (fun _ _ _ h => h) (Or.inl ⟨by rfl, ?_⟩) (by assumption) ?_
  case refine_2 => intro w hSw; (try dsimp only at hSw); go_simp; all_goals (with_reducible rfl)
  try simp only [Act.put, List.setIfInBounds_toArray, List.set_cons_zero, List.set_cons_succ]
  refine wpAnyH_take (i := 6) (oi := { dst := some 30, op := _, type := _, pos := _, after := _, guard := _ }) (v := ?_) rfl (by kernel_rfl) (by kernel_rfl) (by kernel_rfl) (fun _ _ _ h => h) (Or.inl ⟨by rfl, ?_⟩) (by assumption) ?_
  case refine_2 => intro w hSw; (try dsimp only at hSw); go_simp; all_goals (with_reducible rfl)
  try simp only [Act.put, List.setIfInBounds_toArray, List.set_cons_zero, List.set_cons_succ]
  refine wpAnyH_take (i := 7) (oi := { dst := some 31, op := _, type := _, pos := _, after := _, guard := _ }) (v := ?_) rfl (by kernel_rfl) (by kernel_rfl) (by kernel_rfl) (fun _ _ _ h => h) (Or.inl ⟨by rfl, ?_⟩) (by assumption) ?_
  case refine_2 => intro w hSw; (try dsimp only at hSw); go_simp; all_goals (with_reducible rfl)
  try simp only [Act.put, List.setIfInBounds_toArray, List.set_cons_zero, List.set_cons_succ]
  refine wpAnyH_take (i := 8) (oi := { dst := some 32, op := _, type := _, pos := _, after := _, guard := _ }) (v := ?_) rfl (by kernel_rfl) (by kernel_rfl) (by kernel_rfl) (fun _ _ _ h => h) (Or.inl ⟨by rfl, ?_⟩) (by assumption) ?_
  case refine_2 => intro w hSw; (try dsimp only at hSw); go_simp; all_goals (with_reducible rfl)
  try simp only [Act.put, List.setIfInBounds_toArray, List.set_cons_zero, List.set_cons_succ]
  refine wpAnyH_take (i := 9) (oi := { dst := some 33, op := _, type := _, pos := _, after := _, guard := _ }) (v := ?_) rfl (by kernel_rfl) (by kernel_rfl) (by kernel_rfl) (fun _ _ _ h => h) (Or.inl ⟨by rfl, ?_⟩) (by assumption) ?_
  case refine_2 => intro w hSw; (try dsimp only at hSw); go_simp; all_goals (with_reducible rfl)
  try simp only [Act.put, List.setIfInBounds_toArray, List.set_cons_zero, List.set_cons_succ]
  refine wpAnyH_take (i := 10) (oi := { dst := some 34, op := _, type := _, pos := _, after := _, guard := _ }) (v := ?_) rfl (by kernel_rfl) (by kernel_rfl) (by kernel_rfl) (fun _ _ _ h => h) (Or.inl ⟨by rfl, ?_⟩) (by assumption) ?_
  case refine_2 => intro w hSw; (try dsimp only at hSw); go_simp; all_goals (with_reducible rfl)
  try simp only [Act.put, List.setIfInBounds_toArray, List.set_cons_zero, List.set_cons_succ]
  have S1 : Hid (∀ w', Still w w' → Sl encM 3 w' (.slice (if c = pa then A else Option.map (fun x => x.add (pa * 3)) A) (q - pa) (c - pa)) ((xs.drop pa).take (q - pa))) := Lib.hid (fun w' hs => (H.out.still hs).cutA hq2 (by omega))
  have S2 : Hid (∀ w', Still w w' → Sl encM 3 w' (.slice A pa c) (xs.take pa)) := Lib.hid (fun w' hs => (H.out.still hs).pre (by omega))
  have S3 : Hid (∀ w', Still w w' → Sl encM 3 w' (.slice (if c = q then A else Option.map (fun x => x.add (q * 3)) A) (xs.length - q) (c - q)) (xs.drop q)) := Lib.hid (fun w' hs => by
    have := (H.out.still hs).cutA (p := q) (q := xs.length) (by omega) (Nat.le_refl _)
    rwa [show (xs.drop q).take (xs.length - q) = xs.drop q from List.take_of_length_le (by rw [List.length_drop]; exact Nat.le_refl _)] at this)
  generalize (if c = pa then A else Option.map (fun x => x.add (pa * 3)) A) = B1 at *
  generalize (if c = q then A else Option.map (fun x => x.add (q * 3)) A) = B3 at *
  have ql1 : ((xs.drop pa).take (q - pa)).length ≤ 1000000 := by rw [List.length_take, List.length_drop]; omega
  have ql2 : (xs.take pa).length ≤ 1000000 := by rw [List.length_take]; omega
  have ql3 : (xs.drop q).length ≤ 1000000 := by rw [List.length_drop]; omega
  have QL := Lib.hid (And.intro ql1 (And.intro ql2 ql3))
  have q2c : pa ≤ c := by omega
  clear ql1 ql2 ql3 H
  refine wpAnyH_ready (rs := [4, 11]) (by kernel_rfl) (by simp) ?_
  refine AllReadyH.cons (o := _) rfl (fun K hK => ?_) (AllReadyH.cons (o := _) rfl (fun K hK => ?_) AllReadyH.nil)
  · go_simp
    refine (clone40 (S1.out _ hHeld) QL.out.1).mono ?_
    rintro e w2 ⟨v28, rfl, ho, hs⟩
    go_wp2_with fail
    have T28 := Lib.hid (own_slf lenM (by decide) ho hHeld.size)
    refine hK.out _ _ (hHeld.trans hs) (fun hHeld => ?_)
    clear hK K
    try simp only [Act.put, List.setIfInBounds_toArray, List.set_cons_zero, List.set_cons_succ]
    refine wpAnyH_ready (rs := [11]) (by kernel_rfl) (by simp) ?_
    refine AllReadyH.cons (o := _) rfl (fun K hK => ?_) AllReadyH.nil
    go_simp
    have HN := Lib.hid (heap_alloc_new w2 (.cells #[Value.slice A pa c, Value.slice B3 (xs.length - q) (c - q)] 26))
    have T28' := Lib.hid (T28.out.still (Chg.alloc (S := fun _ => False) w2 (.cells #[Value.slice A pa c, Value.slice B3 (xs.length - q) (c - q)] 26)))
    refine hK.out _ _ (hHeld.allocs _) (fun hHeld => ?_)
    clear hK K
    try simp only [Act.put, List.setIfInBounds_toArray, List.set_cons_zero, List.set_cons_succ]
    refine wpAnyH_ready (rs := [12]) (by kernel_rfl) (by simp) ?_
    refine AllReadyH.cons (o := _) rfl (fun K hK => ?_) AllReadyH.nil
    go_simp
    refine (concat44 (b := w2.heap.size) (heap_cell (j := 0) HN.out rfl) (heap_cell (j := 1) HN.out rfl) (S2.out _ hHeld) (S3.out _ hHeld) QL.out.2.1 QL.out.2.2).mono ?_
    rintro e w3 ⟨v36, rfl, T36, hs⟩
    go_wp2_with fail
    have U28 := Lib.hid (T28'.out.still hs)
    have U36 := Lib.hid (T36.mono hHeld.size)
    refine hK.out _ _ (hHeld.trans hs) (fun hHeld => ?_)
    clear hK K T36 hs
    try simp only [Act.put, List.setIfInBounds_toArray, List.set_cons_zero, List.set_cons_succ]
    refine wpAnyH_take (i := 13) (oi := { dst := some 6, op := _, type := _, pos := _, after := _, guard := _ }) (v := ?_) rfl (by kernel_rfl) (by kernel_rfl) (by kernel_rfl) (fun _ _ _ h => h) (Or.inl ⟨by rfl, ?_⟩) (by assumption) ?_
    case refine_2 => intro w hSw; (try dsimp only at hSw); go_simp; all_goals (with_reducible rfl)
    try simp only [Act.put, List.setIfInBounds_toArray, List.set_cons_zero, List.set_cons_succ]
    refine wpAnyH_take (i := 14) (oi := { dst := some 7, op := _, type := _, pos := _, after := _, guard := _ }) (v := ?_) rfl (by kernel_rfl) (by kernel_rfl) (by kernel_rfl) (fun _ _ _ h => h) (Or.inl ⟨by rfl, ?_⟩) (by assumption) ?_
    case refine_2 => intro w hSw; (try dsimp only at hSw); go_simp; all_goals (with_reducible rfl)
    try simp only [Act.put, List.setIfInBounds_toArray, List.set_cons_zero, List.set_cons_succ]
    refine wpAnyH_done (by kernel_rfl) ?_ _
    go_wp2
    refine bodyPost_ret (v := .tuple #[v28, v36]) (by simp [results, Try.results18, go_sem, *]) rfl ?_
    exact ⟨_, _, rfl, U28.out, U36.out, hHeld⟩
  · go_simp
    have HN := Lib.hid (heap_alloc_new w1.drew (.cells #[Value.slice A pa c, Value.slice B3 (xs.length - q) (c - q)] 26))
    refine hK.out _ _ (hHeld.allocs _) (fun hHeld => ?_)
    clear hK K
    try simp only [Act.put, List.setIfInBounds_toArray, List.set_cons_zero, List.set_cons_succ]
    refine wpAnyH_ready (rs := [4]) (by kernel_rfl) (by simp) ?_
    refine AllReadyH.cons (o := _) rfl (fun K hK => ?_) AllReadyH.nil
    go_simp
    refine (clone40 (S1.out _ hHeld) QL.out.1).mono ?_
    rintro e w2 ⟨v28, rfl, ho, hs⟩
    go_wp2_with fail
    have HN2 := Lib.hid (hs.heap HN.out id)
    have T28 := Lib.hid (own_slf lenM (by decide) ho hHeld.size)
    refine hK.out _ _ (hHeld.trans hs) (fun hHeld => ?_)
    clear hK K
    try simp only [Act.put, List.setIfInBounds_toArray, List.set_cons_zero, List.set_cons_succ]
    refine wpAnyH_ready (rs := [12]) (by kernel_rfl) (by simp) ?_
    refine AllReadyH.cons (o := _) rfl (fun K hK => ?_) AllReadyH.nil
    go_simp
    refine (concat44 (b := w1.drew.heap.size) (heap_cell (j := 0) HN2.out rfl) (heap_cell (j := 1) HN2.out rfl) (S2.out _ hHeld) (S3.out _ hHeld) QL.out.2.1 QL.out.2.2).mono ?_
    rintro e w3 ⟨v36, rfl, T36, hs⟩
    go_wp2_with fail
    have U28 := Lib.hid (T28.out.still hs)
    have U36 := Lib.hid (T36.mono hHeld.size)
    refine hK.out _ _ (hHeld.trans hs) (fun hHeld => ?_)
    clear hK K T28 T36 hs
    try simp only [Act.put, List.setIfInBounds_toArray, List.set_cons_zero, List.set_cons_succ]
    refine wpAnyH_take (i := 13) (oi := { dst := some 6, op := _, type := _, pos := _, after := _, guard := _ }) (v := ?_) rfl (by kernel_rfl) (by kernel_rfl) (by kernel_rfl) (fun _ _ _ h => h) (Or.inl ⟨by rfl, ?_⟩) (by assumption) ?_
    case refine_2 => intro w hSw; (try dsimp only at hSw); go_simp; all_goals (with_reducible rfl)
    try simp only [Act.put, List.setIfInBounds_toArray, List.set_cons_zero, List.set_cons_succ]
    refine wpAnyH_take (i := 14) (oi := { dst := some 7, op := _, type := _, pos := _, after := _, guard := _ }) (v := ?_) rfl (by kernel_rfl) (by kernel_rfl) (by kernel_rfl) (fun _ _ _ h => h) (Or.inl ⟨by rfl, ?_⟩) (by assumption) ?_
    case refine_2 => intro w hSw; (try dsimp only at hSw); go_simp; all_goals (with_reducible rfl)
    try simp only [Act.put, List.setIfInBounds_toArray, List.set_cons_zero, List.set_cons_succ]
    refine wpAnyH_done (by kernel_rfl) ?_ _
    go_wp2
    refine bodyPost_ret (v := .tuple #[v28, v36]) (by simp [results, Try.results18, go_sem, *]) rfl ?_
    exact ⟨_, _, rfl, U28.out, U36.out, hHeld⟩
end Go.Proofs.Ytekoibglogoaaaa
