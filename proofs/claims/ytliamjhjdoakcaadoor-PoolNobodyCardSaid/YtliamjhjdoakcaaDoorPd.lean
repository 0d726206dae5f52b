/- The reference of layer 7, by its contracts: Grab, Row, Same. -/
import Derived.Test.YtliamjhjdoakcaaDoorPc
namespace Go.Proofs.YtliamjhjdoakcaaDoor
open Go Go.RowKit Go.Shelf
set_option linter.unusedVariables false
set_option linter.unusedSimpArgs false

theorem own_type_ne {w : World} {b b' : Nat} {e e' : TypeId} {s s' n n' : Nat} {v v' : Value} {xs xs' : List Value} (h : w.ownsRow b e s v n xs) (h' : w.ownsRow b' e' s' v' n' xs') (hne : e ≠ e') (k : Nat) (hk : v.ownBlock = some k) : v'.ownBlock ≠ some k := by
  rcases h.2 with ⟨rfl, _⟩ | ⟨g, cap, cur, rfl, _, hh, _⟩
  · simp [Value.ownBlock] at hk
  · intro hk'
    rcases h'.2 with ⟨rfl, _⟩ | ⟨g', cap', cur', rfl, _, hh', _⟩
    · simp [Value.ownBlock] at hk'
    · simp only [Value.ownBlock, Option.some.injEq] at hk hk'
      subst hk
      rw [hk'] at hh'
      rw [hh] at hh'
      injection hh' with hh'
      injection hh' with _ ht
      exact hne ht

def grabE (l : List Bool) (k : Int) : Int := if k < 0 then 2 else if ((l.count false : Nat) : Int) < k then 11 else 0
def grabG (l : List Bool) (k : Int) : List Nat := if k < 0 ∨ ((l.count false : Nat) : Int) < k then [] else Bt.gr l 0 k.toNat
def grabL (l : List Bool) (k : Int) : List Bool := Bt.setAll l (grabG l k)

/-- Grab. -/
theorem grab_pool {w : World} {q p wb : Nat} {l : List Bool} (h : IsPool w q p wb l) (hT : TabAt 0 Lib.deBruijn64tab w) (h0 : 0 ≠ p ∧ 0 ≠ wb) (k : Int) :
    Calls Tryd.prog 26 #[.pointer (some ⟨q, 0, none⟩), .int .i64 k] w fun e w' => ∃ v, e = .returned (.tuple #[v, .int .i64 (grabE l k)]) ∧ Own32 w' w.heap.size v (grabG l k) ∧ IsPool w' q p wb (grabL l k) ∧ Chg (fun i => i = p ∨ i = wb) w w' := by
  unfold grabL grabE grabG
  by_cases h1 : k < 0
  · rw [if_pos h1, if_pos (.inl h1)]
    refine (grab_neg h k h1).mono ?_
    rintro e w' ⟨rfl, rfl⟩
    exact ⟨_, rfl, Own32.nil _ _, h, Chg.refl _ _⟩
  by_cases h2 : ((l.count false : Nat) : Int) < k
  · rw [if_neg h1, if_pos h2, if_pos (.inr h2)]
    refine (grab_full h k (by omega) h2).mono ?_
    rintro e w' ⟨rfl, hs⟩
    exact ⟨_, rfl, Own32.nil _ _, h.still hs, hs.mono (fun _ h => h.elim)⟩
  rw [if_neg h1, if_neg h2, if_neg (by omega)]
  obtain ⟨n, rfl⟩ := Int.eq_ofNat_of_zero_le (show 0 ≤ k by omega)
  refine (grab_ok h hT h0 n (by omega)).mono ?_
  rintro e w' ⟨v, rfl, ho, hp, hc⟩
  exact ⟨v, rfl, ho, hp, hc⟩

/-- What the reference's Grab has done. -/
structure RGrab (w wr : World) (g n : Nat) (l : List Bool) (k i g' cap' : Nat) (v : Value) (got : List Nat) (l' : List Bool) : Prop where
  own : Own32 wr w.heap.size v got
  ref : IsBools wr g' cap' l'
  len : l'.length = n
  from_ : ∀ x, i ≤ x → l'.getD x false = l.getD x false
  all : l' = Bt.setAll l got
  gr : Bt.gr l 0 k = got ++ Bt.gr l i (k - got.length)
  room : got.length ≤ k
  at_ : g' = g ∨ w.heap.size ≤ g'
  below : Below w.heap.size w wr

def RGrabR (w : World) (g n : Nat) (l : List Bool) (k : Nat) (s v i : Value) (wr : World) : Prop :=
  ∃ j g' cap' got l' v', j ≤ n ∧ i = .int .i64 (j : Nat) ∧ s = .slice (some ⟨g', 0, none⟩) n cap' ∧ v' = v ∧ RGrab w wr g n l k j g' cap' v' got l'
def RGrabP (w : World) (g cap n : Nat) (l : List Bool) (k : Int) (e : Ending) (w' : World) : Prop :=
  ∃ g' cap' v, e = .returned (.tuple #[.slice (some ⟨g', 0, none⟩) n cap', v, .int .i64 (grabE l k)]) ∧ IsBools w' g' cap' (grabL l k) ∧ Own32 w' w.heap.size v (grabG l k) ∧ (grabL l k).length = n ∧ (g' = g ∨ w.heap.size ≤ g') ∧ Below w.heap.size w w'

theorem RGrab.still {w wr w1 : World} {g n : Nat} {l : List Bool} {k i g' cap' : Nat} {v : Value} {got : List Nat} {l' : List Bool} (h : RGrab w wr g n l k i g' cap' v got l') (hB : Below wr.heap.size wr w1) : RGrab w w1 g n l k i g' cap' v got l' := by
  have hs := h.below.size
  exact ⟨(Chg.of_below hB (fun _ => False)).own h.own (fun _ _ h => h), h.ref.still (Chg.of_below hB _), h.len, h.from_, h.all, h.gr, h.room, h.at_, h.below.trans (hB.mono hs)⟩
theorem RGrab.taken {w wr : World} {g n : Nat} {l : List Bool} {k i g' cap' : Nat} {v : Value} {got : List Nat} {l' : List Bool} (h : RGrab w wr g n l k i g' cap' v got l') (hi : l'.getD i false = true) : RGrab w wr g n l k (i + 1) g' cap' v got l' := by
  refine ⟨h.own, h.ref, h.len, fun x hx => h.from_ x (by omega), h.all, ?_, h.room, h.at_, h.below⟩
  rw [h.gr, Bt.gr_taken (by rw [← h.from_ i (Nat.le_refl _)]; exact hi)]
theorem RGrab.put {w wr w1 w2 : World} {g n : Nat} {l : List Bool} {k i g' cap' g1 cap1 : Nat} {v v1 : Value} {got : List Nat} {l' : List Bool} (h : RGrab w wr g n l k i g' cap' v got l') (hln : l.length = n) (hi : l'.getD i false = false) (hin : i < n) (hk : got.length < k)
    (hb : IsBools w1 g1 cap1 (l'.set i true)) (hg1 : wr.heap.size ≤ g1) (hB : Below wr.heap.size wr w1) (ho : Own32 w2 w.heap.size v1 (got ++ [i])) (hc : Chg (fun q => v.ownBlock = some q) w1 w2) : RGrab w w2 g n l k (i + 1) g1 cap1 v1 (got ++ [i]) (l'.set i true) := by
  have hs := h.below.size
  have hs1 := hB.size
  have hov : Own32 w1 w.heap.size v got := (Chg.of_below hB (fun _ => False)).own h.own (fun _ _ h => h)
  refine ⟨ho, hb.chg hc (fun e => own_type_ne hov hb (by decide) _ e rfl), by simpa using h.len, fun x hx => ?_, ?_, ?_, by simp; omega, .inr (by omega), (h.below.trans (hB.mono hs)).trans (hc.below (by omega) (fun q hq => (hov.lt q hq).1))⟩
  · rw [Bt.getD_set_ne _ _ _ _ (by omega)]
    exact h.from_ x (by omega)
  · rw [Bt.setAll_snoc, ← h.all]
  · rw [h.gr, show k - got.length = (k - (got.length + 1)) + 1 by omega, Bt.gr_free (by omega) (by rw [← h.from_ i (Nat.le_refl _)]; exact hi)]
    simp

set_option maxHeartbeats 1000000 in
theorem ref7_grab_ok {w : World} {g cap n : Nat} {l : List Bool} (h : IsBools w g cap l) (hn : l.length = n) (hl : n ≤ 65536) (k : Nat) (hk : k ≤ l.count false) :
    Calls Tryd.prog 32 #[.slice (some ⟨g, 0, none⟩) n cap, .int .i64 k] w (RGrabP w g cap n l k) := by
  have hcl : l.count false ≤ l.length := List.count_le_length
  have hkn : k ≤ 65536 := by omega
  have H := Lib.hid (show IsBools w g cap l ∧ l.length = n ∧ k ≤ l.count false from ⟨h, hn, hk⟩)
  generalize hc : l.count false = c at hk hcl
  have Hc := Lib.hid hc
  have hck : decide (c < k) = false := by simp; omega
  clear h hn hc hcl
  go_enter Tryd.func32, Tryd.ntmps32
  go_wp2_with (go_at_call 39; refine (ref7_free H.out.1 H.out.2.1 hl).mono ?_; rintro e w1 ⟨rfl, rfl⟩; rw [Hc.out])
  have HG : Hid (RGrab w (w.alloc (.cells #[] 52)) g n l k 0 g cap (.slice (some ⟨w.heap.size, 0, none⟩) 0 0) [] l) :=
    ⟨World.ownsRow_made w #[] 0 (Nat.le_refl _) (by decide) (by simp), H.out.1.still (Chg.alloc w _), H.out.2.1, fun _ _ => rfl, rfl, by simp, Nat.zero_le _, .inl rfl, (Below.refl _ _).alloc (Nat.le_refl _) _⟩
  go_loopw [0, 7, 8] (fun s v i wr => RGrabR w g n l k s v i wr) (fun _ _ i _ => n - (intOf i).toNat)
  case atStart => exact ⟨0, g, cap, [], l, _, Nat.zero_le _, rfl, rfl, rfl, HG.out⟩
  case round =>
    clear HG
    obtain ⟨j, g', cap', got, l', v, hj, rfl, rfl, rfl, hg⟩ := hrel
    have HG := Lib.hid hg
    clear hg
    obtain ⟨vA, vc, rfl⟩ : ∃ A c, v = .slice A got.length c := by
      rcases HG.out.own.2 with ⟨e, h0⟩ | ⟨g2, c2, cur, e, _⟩
      · exact ⟨none, 0, by rw [e, h0]⟩
      · exact ⟨_, c2, e⟩
    have hgk : got.length ≤ k := HG.out.room
    by_cases hlt : j < n
    · by_cases hgl : got.length < k
      · have hcell := HG.out.ref.cell j (by rw [HG.out.len]; exact hlt)
        have hg1000 : got.length ≤ 1000000 := by omega
        cases hv : l'.getD j false with
        | true =>
          rw [hv] at hcell
          have HG2 := Lib.hid (HG.out.taken hv)
          clear hv HG
          go_wp2
          go_roundw
          case rel => exact ⟨j + 1, _, _, _, _, _, by omega, by go_num, rfl, rfl, HG2.out⟩
          case measure => simp [intOf]; omega
        | false =>
          rw [hv] at hcell
          have HV := Lib.hid hv
          clear hv
          go_wp2_with fail
          refine (ref7_with' HG.out.ref HG.out.len hl j hlt true).mono ?_
          rintro e w1 ⟨g1, cap1, rfl, hb, hgs, hB⟩
          have HB := Lib.hid (show IsBools w1 g1 cap1 (l'.set j true) ∧ wr.heap.size ≤ g1 ∧ Below wr.heap.size wr w1 ∧ l'.length = n from ⟨hb, hgs, hB, HG.out.len⟩)
          have HO : Hid (Own32 w1 w.heap.size (.slice vA got.length vc) got) := (Chg.of_below hB (fun _ => False)).own HG.out.own (fun _ _ h => h)
          have hsz : w.heap.size ≤ w1.heap.size := Nat.le_trans HG.out.below.size hB.size
          rw [HB.out.2.2.2]
          clear hb hgs hB
          go_wp2_with (at_builtin; refine append32 rfl _ _ j _ rfl w.heap.size got rfl rfl HO.out hsz hg1000 ?_; intro v1 w4 ho4 hc4)
          have HG2 := Lib.hid (HG.out.put H.out.2.1 HV.out hlt hgl HB.out.1 HB.out.2.1 HB.out.2.2.1 ho4 hc4)
          clear ho4 hc4 HG HO
          go_wp2
          go_roundw
          case rel => exact ⟨j + 1, _, _, _, _, _, by omega, by go_num, rfl, rfl, HG2.out⟩
          case measure => simp [intOf]; omega
      · have Hfin : Hid (Bt.gr l 0 k = got) := by
          have e1 := HG.out.gr
          rw [show k - got.length = 0 by omega, Bt.gr_zero, List.append_nil] at e1
          exact e1
        have HE : Hid (grabE l (k : Nat) = 0 ∧ grabG l (k : Nat) = got ∧ grabL l (k : Nat) = l') := by
          have hk := H.out.2.2
          have e2 : grabG l (k : Nat) = got := by unfold grabG; rw [if_neg (by omega)]; exact Hfin.out
          refine ⟨by unfold grabE; rw [if_neg (by omega), if_neg (by omega)], e2, ?_⟩
          unfold grabL; rw [e2, ← HG.out.all]
        clear Hfin
        go_wp2
        go_ret3
        exact ⟨g', cap', _, by rw [HE.out.1]; rfl, by rw [HE.out.2.2]; exact HG.out.ref, by rw [HE.out.2.1]; exact HG.out.own, by rw [HE.out.2.2]; exact HG.out.len, HG.out.at_, HG.out.below⟩
    · have Hfin : Hid (Bt.gr l 0 k = got) := by
        have e1 := HG.out.gr
        rw [Bt.gr_end (l := l) (f := j) (by rw [H.out.2.1]; omega), List.append_nil] at e1
        exact e1
      have HE : Hid (grabE l (k : Nat) = 0 ∧ grabG l (k : Nat) = got ∧ grabL l (k : Nat) = l') := by
        have hk := H.out.2.2
        have e2 : grabG l (k : Nat) = got := by unfold grabG; rw [if_neg (by omega)]; exact Hfin.out
        refine ⟨by unfold grabE; rw [if_neg (by omega), if_neg (by omega)], e2, ?_⟩
        unfold grabL; rw [e2, ← HG.out.all]
      clear Hfin
      go_wp2
      go_ret3
      exact ⟨g', cap', _, by rw [HE.out.1]; rfl, by rw [HE.out.2.2]; exact HG.out.ref, by rw [HE.out.2.1]; exact HG.out.own, by rw [HE.out.2.2]; exact HG.out.len, HG.out.at_, HG.out.below⟩

set_option maxHeartbeats 400000 in
theorem ref7_grab {w : World} {g cap n : Nat} {l : List Bool} (h : IsBools w g cap l) (hn : l.length = n) (hl : n ≤ 65536) (k : Int) :
    Calls Tryd.prog 32 #[.slice (some ⟨g, 0, none⟩) n cap, .int .i64 k] w (RGrabP w g cap n l k) := by
  by_cases h1 : k < 0
  · have HE : Hid (grabE l k = 2 ∧ grabG l k = [] ∧ grabL l k = l) := by
      have e2 : grabG l k = [] := by unfold grabG; rw [if_pos (.inl h1)]
      refine ⟨by unfold grabE; rw [if_pos h1], e2, ?_⟩
      unfold grabL; rw [e2]; rfl
    have Hn := Lib.hid hn
    clear hn
    go_enter Tryd.func32, Tryd.ntmps32
    go_wp2
    go_ret3
    exact ⟨g, cap, _, by rw [HE.out.1]; rfl, by rw [HE.out.2.2]; exact h, by rw [HE.out.2.1]; exact Own32.nil _ _, by rw [HE.out.2.2]; exact Hn.out, .inl rfl, Below.refl _ _⟩
  by_cases h2 : ((l.count false : Nat) : Int) < k
  · have HE : Hid (grabE l k = 11 ∧ grabG l k = [] ∧ grabL l k = l) := by
      have e2 : grabG l k = [] := by unfold grabG; rw [if_pos (.inr h2)]
      refine ⟨by unfold grabE; rw [if_neg h1, if_pos h2], e2, ?_⟩
      unfold grabL; rw [e2]; rfl
    have Hn := Lib.hid hn
    clear hn
    generalize hc : l.count false = c at h2
    have Hc := Lib.hid hc
    clear hc
    go_enter Tryd.func32, Tryd.ntmps32
    go_wp2_with (go_at_call 39; refine (ref7_free h Hn.out hl).mono ?_; rintro e w1 ⟨rfl, rfl⟩; rw [Hc.out])
    go_ret3
    exact ⟨g, cap, _, by rw [HE.out.1]; rfl, by rw [HE.out.2.2]; exact h, by rw [HE.out.2.1]; exact Own32.nil _ _, by rw [HE.out.2.2]; exact Hn.out, .inl rfl, Below.refl _ _⟩
  obtain ⟨m, rfl⟩ := Int.eq_ofNat_of_zero_le (show 0 ≤ k by omega)
  exact ref7_grab_ok h hn hl m (by omega)
end Go.Proofs.YtliamjhjdoakcaaDoor
