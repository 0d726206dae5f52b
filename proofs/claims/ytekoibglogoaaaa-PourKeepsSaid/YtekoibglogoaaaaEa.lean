/- Pouring: the pouring itself, by its contract. -/
import Derived.Test.YtekoibglogoaaaaDl
import Derived.Test.YtekoibglogoaaaaDb
import Derived.Deep.RegionHeld3
import Derived.Deep.CutBlock
namespace Go.Proofs.Ytekoibglogoaaaa
open Go Go.RowKit Go.Shelf
set_option linter.unusedVariables false
set_option linter.unusedSimpArgs false

/-- A slice that does not lie in one of the five blocks from B on. -/
def OutV (B : Nat) (v : Value) : Prop := ∀ b off n c, v = .slice (some ⟨b, off, none⟩) n c → 0 < n → b < B ∨ B + 5 ≤ b
def SlO {α : Type} (B : Nat) (enc : α → List Value) (sz : Nat) (w : World) (v : Value) (xs : List α) : Prop := Sl enc sz w v xs ∧ OutV B v
theorem SlO.still {α : Type} {B : Nat} {enc : α → List Value} {sz : Nat} {w w' : World} {v : Value} {xs : List α} (h : SlO B enc sz w v xs) (hs : Still w w') : SlO B enc sz w' v xs := ⟨h.1.still hs, h.2⟩
theorem SlF.outO {α : Type} {B g : Nat} {enc : α → List Value} {sz : Nat} {w : World} {v : Value} {xs : List α} (h : SlF B enc sz w v xs) (hB : g + 5 ≤ B) : SlO g enc sz w v xs := ⟨h.1, fun b off n c e h0 => .inr (Nat.le_trans hB (h.2 b off n c e h0))⟩
theorem Sl.outO {α : Type} {enc : α → List Value} {sz : Nat} {w w' : World} {v : Value} {xs : List α} (h : Sl enc sz w v xs) (hs : Still w w') : SlO w.heap.size enc sz w' v xs := ⟨h.still hs, fun b off n c e h0 => by
  obtain ⟨A, cap, e1, q1, q2, q3⟩ := h
  rw [e] at e1
  simp only [Value.slice.injEq] at e1
  obtain ⟨rfl, rfl, rfl⟩ := e1
  obtain ⟨b', off', e2, hb, -⟩ := q3 h0
  simp only [Option.some.injEq, Addr.mk.injEq] at e2
  obtain ⟨rfl, -, -⟩ := e2
  exact .inl hb⟩
/-- A block that holds a node, and its lists. -/
structure NodeAt (wx : World) (B b : Nat) (n : Nd) (A1 : Option Addr) (c1 : Nat) (A2 : Option Addr) (c2 : Nat) (A3 : Option Addr) (c3 : Nat) (A4 : Option Addr) (c4 : Nat) : Prop where
  at_ : wx.heap[b]? = some (.cells #[.int .i64 n.lev, .slice A1 n.kids.length c1, .slice A2 n.piv.length c2, .slice A3 n.buf.length c3, .slice A4 n.prs.length c4] 29)
  s1 : SlO B encU 1 wx (.slice A1 n.kids.length c1) n.kids
  s2 : SlO B encS 1 wx (.slice A2 n.piv.length c2) n.piv
  s3 : SlO B encM 3 wx (.slice A3 n.buf.length c3) n.buf
  s4 : SlO B encP 2 wx (.slice A4 n.prs.length c4) n.prs
theorem SlO.far {α : Type} {B g : Nat} {enc : α → List Value} {sz : Nat} {w w' : World} {v : Value} {xs : List α} (h : SlO B enc sz w v xs) (hc : Chg (fun k => k = g) w w') (hg : B ≤ g ∧ g < B + 5) : SlO B enc sz w' v xs :=
  ⟨h.1.chg hc (fun b off l c e h0 hS => by have := h.2 b off l c e h0; omega), h.2⟩
theorem NodeAt.still {wx wy : World} {B b : Nat} {n : Nd} {A1 A2 A3 A4 : Option Addr} {c1 c2 c3 c4 : Nat} (h : NodeAt wx B b n A1 c1 A2 c2 A3 c3 A4 c4) (hs : Still wx wy) : NodeAt wy B b n A1 c1 A2 c2 A3 c3 A4 c4 :=
  ⟨hs.heap h.at_ id, h.s1.still hs, h.s2.still hs, h.s3.still hs, h.s4.still hs⟩
theorem NodeAt.far {wx wy : World} {B b g : Nat} {n : Nd} {A1 A2 A3 A4 : Option Addr} {c1 c2 c3 c4 : Nat} (h : NodeAt wx B b n A1 c1 A2 c2 A3 c3 A4 c4) (hs : Chg (fun k => k = g) wx wy) (hb : b ≠ g) (hg : B ≤ g ∧ g < B + 5) : NodeAt wy B b n A1 c1 A2 c2 A3 c3 A4 c4 :=
  ⟨hs.heap h.at_ hb, h.s1.far hs hg, h.s2.far hs hg, h.s3.far hs hg, h.s4.far hs hg⟩
theorem NodeAt.val {wx : World} {B b : Nat} {n : Nd} {A1 A2 A3 A4 : Option Addr} {c1 c2 c3 c4 : Nat} (h : NodeAt wx B b n A1 c1 A2 c2 A3 c3 A4 c4) : NodeV wx (.agg #[.int .i64 n.lev, .slice A1 n.kids.length c1, .slice A2 n.piv.length c2, .slice A3 n.buf.length c3, .slice A4 n.prs.length c4]) n :=
  ⟨_, _, _, _, rfl, h.s1.1, h.s2.1, h.s3.1, h.s4.1⟩
def ZeroN : Obj := .cells #[.int .i64 0, .slice none 0 0, .slice none 0 0, .slice none 0 0, .slice none 0 0] 29
/-- What stands while it pours. -/
structure PW (c : Conf) (p k : Nd) (w wx : World) (g : Nat) : Prop where
  conf : Cells8 wx g c.blocks c.bytes c.frames c.fan c.buffer c.leaf c.key c.val
  p : ∃ A1 c1 A2 c2 A3 c3 A4 c4, NodeAt wx g (g + 1) p A1 c1 A2 c2 A3 c3 A4 c4
  k : ∃ A1 c1 A2 c2 A3 c3 A4 c4, NodeAt wx g (g + 1 + 1) k A1 c1 A2 c2 A3 c3 A4 c4
  z1 : wx.heap[g + 1 + 1 + 1]? = some ZeroN
  z2 : wx.heap[g + 1 + 1 + 1 + 1]? = some ZeroN
  still : Still w wx
  size : g + 5 ≤ wx.heap.size
theorem PW.move {c : Conf} {p k : Nd} {w wx wy : World} {g : Nat} (h : PW c p k w wx g) (hs : Still wx wy) : PW c p k w wy g := by
  obtain ⟨h1, ⟨A1, c1, A2, c2, A3, c3, A4, c4, hp⟩, ⟨B1, d1, B2, d2, B3, d3, B4, d4, hk⟩, z1, z2, hst, hsz⟩ := h
  exact ⟨h1.still hs, ⟨A1, c1, A2, c2, A3, c3, A4, c4, hp.still hs⟩, ⟨B1, d1, B2, d2, B3, d3, B4, d4, hk.still hs⟩, hs.heap z1 id, hs.heap z2 id, hst.trans hs, Nat.le_trans hsz hs.size⟩
theorem alloc5_at (w : World) (a b c d e : Obj) : let w5 := ((((w.alloc a).alloc b).alloc c).alloc d).alloc e
    w5.heap[w.heap.size]? = some a ∧ w5.heap[w.heap.size + 1]? = some b ∧ w5.heap[w.heap.size + 1 + 1]? = some c ∧ w5.heap[w.heap.size + 1 + 1 + 1]? = some d ∧ w5.heap[w.heap.size + 1 + 1 + 1 + 1]? = some e ∧ w5.heap.size = w.heap.size + 5 := by
  intro w5
  obtain ⟨h1, h2, h3, h4⟩ := alloc4_at w a b c d
  have s4 : ((((w.alloc a).alloc b).alloc c).alloc d).heap.size = w.heap.size + 1 + 1 + 1 + 1 := by rw [size_al, size_al, size_al, size_al]
  have h5 := heap_alloc_new ((((w.alloc a).alloc b).alloc c).alloc d) e
  rw [s4] at h5
  have hc := Chg.alloc (S := fun _ => False) ((((w.alloc a).alloc b).alloc c).alloc d) e
  exact ⟨hc.heap h1 id, hc.heap h2 id, hc.heap h3 id, hc.heap h4 id, h5, by rw [size_al, s4]⟩
/-- What is poured. -/
def mostOf (c : Conf) (k : Nd) (most : Int) : Int := if 0 < k.lev then min most (c.buffer - (k.buf.length : Int)) else most
def earlyP (p k : Nd) (at_ most : Int) : Prop := at_ < 0 ∨ (p.kids.length : Int) ≤ at_ ∨ p.lev ≠ k.lev + 1 ∨ most < 1
instance (p k : Nd) (at_ most : Int) : Decidable (earlyP p k at_ most) := by unfold earlyP; exact inferInstance
def takenP (c : Conf) (p : Nd) (at_ : Int) (k : Nd) (most : Int) : List Msg := if earlyP p k at_ most then [] else taken (spanR p.piv at_).1 p.buf (mostOf c k most)
def pourP (c : Conf) (p : Nd) (at_ : Int) (k : Nd) (most : Int) : Nd := if earlyP p k at_ most then p else { p with buf := restOf (spanR p.piv at_).1 p.buf (mostOf c k most) }
def pourK (c : Conf) (p : Nd) (at_ : Int) (k : Nd) (most : Int) : Nd := if earlyP p k at_ most then k else if k.lev = 0 then { k with prs := appL k.prs (takenP c p at_ k most) } else { k with buf := mergeL (takenP c p at_ k most) k.buf }
def PourP (q x : Nd) (n : Nat) (w : World) (e : Ending) (w' : World) : Prop := ∃ v1 v2, e = .returned (.tuple #[v1, v2, .int .i64 n]) ∧ NodeV w' v1 q ∧ NodeV w' v2 x ∧ Still w w'
/-- What is asked of the two nodes. -/
structure PourH (c : Conf) (p k : Nd) (at_ most : Int) : Prop where
  np : SmallN p
  nk : SmallN k
  lp : 0 ≤ p.lev ∧ p.lev ≤ 40
  lk : 0 ≤ k.lev ∧ k.lev ≤ 40
  rp : Rises Msg.k p.buf
  rk : Rises Pr.k k.prs
  bp : p.buf.length ≤ 400000
  bk : k.prs.length ≤ 400000
  bb : k.buf.length ≤ 400000
  ok : ¬ earlyP p k at_ most → (spanR p.piv at_).2 = true
  cb : 0 ≤ c.buffer ∧ c.buffer ≤ 1000000
  ma : -9223372036854775808 ≤ at_ ∧ at_ ≤ 9223372036854775807
  mm : -9223372036854775808 ≤ most ∧ most ≤ 9223372036854775807

theorem keep10 {w w1 w2 : World} {g gz : Nat} {x0 x1 x2 x3 x4 y0 y1 y2 y3 y4 : Value} (h : w1.cell? ⟨g + 1, 0, none⟩ = some x0 ∧ w1.cell? ⟨g + 1, 1, none⟩ = some x1 ∧ w1.cell? ⟨g + 1, 2, none⟩ = some x2 ∧ w1.cell? ⟨g + 1, 3, none⟩ = some x3 ∧ w1.cell? ⟨g + 1, 4, none⟩ = some x4 ∧ w1.cell? ⟨g + 1 + 1, 0, none⟩ = some y0 ∧ w1.cell? ⟨g + 1 + 1, 1, none⟩ = some y1 ∧ w1.cell? ⟨g + 1 + 1, 2, none⟩ = some y2 ∧ w1.cell? ⟨g + 1 + 1, 3, none⟩ = some y3 ∧ w1.cell? ⟨g + 1 + 1, 4, none⟩ = some y4 ∧ Still w w1)
    (hs : Chg (fun i => i = gz) w1 w2) (n1 : g + 1 ≠ gz) (n2 : g + 1 + 1 ≠ gz) (n3 : w.heap.size ≤ gz) : w2.cell? ⟨g + 1, 0, none⟩ = some x0 ∧ w2.cell? ⟨g + 1, 1, none⟩ = some x1 ∧ w2.cell? ⟨g + 1, 2, none⟩ = some x2 ∧ w2.cell? ⟨g + 1, 3, none⟩ = some x3 ∧ w2.cell? ⟨g + 1, 4, none⟩ = some x4 ∧ w2.cell? ⟨g + 1 + 1, 0, none⟩ = some y0 ∧ w2.cell? ⟨g + 1 + 1, 1, none⟩ = some y1 ∧ w2.cell? ⟨g + 1 + 1, 2, none⟩ = some y2 ∧ w2.cell? ⟨g + 1 + 1, 3, none⟩ = some y3 ∧ w2.cell? ⟨g + 1 + 1, 4, none⟩ = some y4 ∧ Still w w2 := by
  obtain ⟨h0, h1, h2, h3, h4, k0, k1, k2, k3, k4, h5⟩ := h
  exact ⟨hs.cell h0 n1, hs.cell h1 n1, hs.cell h2 n1, hs.cell h3 n1, hs.cell h4 n1, hs.cell k0 n2, hs.cell k1 n2, hs.cell k2 n2, hs.cell k3 n2, hs.cell k4 n2, h5.then hs (fun i hi => .inr (by subst hi; exact n3))⟩
theorem fin_made {wx wd wa wb : World} {g b g3 g4 : Nat} {n : Nd} {A1 A2 A3 A4 : Option Addr} {c1 c2 c3 c4 : Nat} (h : NodeAt wx g b n A1 c1 A2 c2 A3 c3 A4 c4) (hd : Still wx wd) (h1 : Chg (fun i => i = g3) wd wa) (h2 : Chg (fun i => i = g4) wa wb) (l1 : g ≤ g3 ∧ g3 < g + 5) (l2 : g ≤ g4 ∧ g4 < g + 5) :
    NodeV wb (.agg #[.int .i64 n.lev, .slice A1 n.kids.length c1, .slice A2 n.piv.length c2, .slice A3 n.buf.length c3, .slice A4 n.prs.length c4]) n :=
  ⟨_, _, _, _, rfl, (((h.s1.still hd).far h1 l1).far h2 l2).1, (((h.s2.still hd).far h1 l1).far h2 l2).1, (((h.s3.still hd).far h1 l1).far h2 l2).1, (((h.s4.still hd).far h1 l1).far h2 l2).1⟩
/-- The node's messages, laid down anew. -/
theorem NodeAt.setBuf {wx : World} {B b : Nat} {n : Nd} {A1 A2 A3 A4 : Option Addr} {c1 c2 c3 c4 : Nat} (h : NodeAt wx B b n A1 c1 A2 c2 A3 c3 A4 c4) {A : Option Addr} {cc : Nat} {r : List Msg} (hr : SlO B encM 3 wx (.slice A r.length cc) r) (hb : B ≤ b ∧ b < B + 5) :
    NodeAt (wx.setCell ⟨b, 3, none⟩ (.slice A r.length cc)) B b { n with buf := r } A1 c1 A2 c2 A cc A4 c4 := by
  have hc : Chg (fun k => k = b) wx (wx.setCell ⟨b, 3, none⟩ (.slice A r.length cc)) := Chg.setCell wx _ _ rfl
  have := heap_set (j := 3) h.at_ (.slice A r.length cc)
  exact ⟨by simpa using this, h.s1.far hc hb, h.s2.far hc hb, hr.far hc hb, h.s4.far hc hb⟩
theorem NodeAt.setPrs {wx : World} {B b : Nat} {n : Nd} {A1 A2 A3 A4 : Option Addr} {c1 c2 c3 c4 : Nat} (h : NodeAt wx B b n A1 c1 A2 c2 A3 c3 A4 c4) {A : Option Addr} {cc : Nat} {r : List Pr} (hr : SlO B encP 2 wx (.slice A r.length cc) r) (hb : B ≤ b ∧ b < B + 5) :
    NodeAt (wx.setCell ⟨b, 4, none⟩ (.slice A r.length cc)) B b { n with prs := r } A1 c1 A2 c2 A3 c3 A cc := by
  have hc : Chg (fun k => k = b) wx (wx.setCell ⟨b, 4, none⟩ (.slice A r.length cc)) := Chg.setCell wx _ _ rfl
  have := heap_set (j := 4) h.at_ (.slice A r.length cc)
  exact ⟨by simpa using this, h.s1.far hc hb, h.s2.far hc hb, h.s3.far hc hb, hr.far hc hb⟩
theorem PW.rest {c : Conf} {p k : Nd} {w wx wy : World} {g b : Nat} (h : PW c p k w wx g) (hs : Chg (fun i => i = b) wx wy) (hb : b = g + 1 ∨ b = g + 1 + 1) (hg : w.heap.size = g) : Cells8 wy g c.blocks c.bytes c.frames c.fan c.buffer c.leaf c.key c.val ∧ wy.heap[g + 1 + 1 + 1]? = some ZeroN ∧ wy.heap[g + 1 + 1 + 1 + 1]? = some ZeroN ∧ Still w wy ∧ g + 5 ≤ wy.heap.size := by
  obtain ⟨h0, h1, h2, h3, h4, h5, h6, h7⟩ := h.conf
  have n0 : ¬ g = b := by omega
  have n1 : ¬ g + 1 + 1 + 1 = b := by omega
  have n2 : ¬ g + 1 + 1 + 1 + 1 = b := by omega
  exact ⟨⟨hs.cell h0 n0, hs.cell h1 n0, hs.cell h2 n0, hs.cell h3 n0, hs.cell h4 n0, hs.cell h5 n0, hs.cell h6 n0, hs.cell h7 n0⟩, hs.heap h.z1 n1, hs.heap h.z2 n2, h.still.then hs (fun i hi => .inr (by subst hi; omega)), Nat.le_trans h.size hs.size⟩
theorem PW.setP {c : Conf} {p k : Nd} {w wx : World} {g : Nat} (h : PW c p k w wx g) (hg : w.heap.size = g) {A : Option Addr} {cc : Nat} {r : List Msg} (hr : SlO g encM 3 wx (.slice A r.length cc) r) : PW c { p with buf := r } k w (wx.setCell ⟨g + 1, 3, none⟩ (.slice A r.length cc)) g := by
  have hc : Chg (fun i => i = g + 1) wx (wx.setCell ⟨g + 1, 3, none⟩ (.slice A r.length cc)) := Chg.setCell wx _ _ rfl
  obtain ⟨q1, q2, q3, q4, q5⟩ := h.rest hc (.inl rfl) hg
  obtain ⟨A1, c1, A2, c2, A3, c3, A4, c4, hp⟩ := h.p
  obtain ⟨B1, d1, B2, d2, B3, d3, B4, d4, hk⟩ := h.k
  exact ⟨q1, ⟨_, _, _, _, _, _, _, _, hp.setBuf hr (by omega)⟩, ⟨_, _, _, _, _, _, _, _, hk.far hc (by omega) (by omega)⟩, q2, q3, q4, q5⟩
theorem PW.setKb {c : Conf} {p k : Nd} {w wx : World} {g : Nat} (h : PW c p k w wx g) (hg : w.heap.size = g) {A : Option Addr} {cc : Nat} {r : List Msg} (hr : SlO g encM 3 wx (.slice A r.length cc) r) : PW c p { k with buf := r } w (wx.setCell ⟨g + 1 + 1, 3, none⟩ (.slice A r.length cc)) g := by
  have hc : Chg (fun i => i = g + 1 + 1) wx (wx.setCell ⟨g + 1 + 1, 3, none⟩ (.slice A r.length cc)) := Chg.setCell wx _ _ rfl
  obtain ⟨q1, q2, q3, q4, q5⟩ := h.rest hc (.inr rfl) hg
  obtain ⟨A1, c1, A2, c2, A3, c3, A4, c4, hp⟩ := h.p
  obtain ⟨B1, d1, B2, d2, B3, d3, B4, d4, hk⟩ := h.k
  exact ⟨q1, ⟨_, _, _, _, _, _, _, _, hp.far hc (by omega) (by omega)⟩, ⟨_, _, _, _, _, _, _, _, hk.setBuf hr (by omega)⟩, q2, q3, q4, q5⟩
theorem PW.setKp {c : Conf} {p k : Nd} {w wx : World} {g : Nat} (h : PW c p k w wx g) (hg : w.heap.size = g) {A : Option Addr} {cc : Nat} {r : List Pr} (hr : SlO g encP 2 wx (.slice A r.length cc) r) : PW c p { k with prs := r } w (wx.setCell ⟨g + 1 + 1, 4, none⟩ (.slice A r.length cc)) g := by
  have hc : Chg (fun i => i = g + 1 + 1) wx (wx.setCell ⟨g + 1 + 1, 4, none⟩ (.slice A r.length cc)) := Chg.setCell wx _ _ rfl
  obtain ⟨q1, q2, q3, q4, q5⟩ := h.rest hc (.inr rfl) hg
  obtain ⟨A1, c1, A2, c2, A3, c3, A4, c4, hp⟩ := h.p
  obtain ⟨B1, d1, B2, d2, B3, d3, B4, d4, hk⟩ := h.k
  exact ⟨q1, ⟨_, _, _, _, _, _, _, _, hp.far hc (by omega) (by omega)⟩, ⟨_, _, _, _, _, _, _, _, hk.setPrs hr (by omega)⟩, q2, q3, q4, q5⟩
theorem set3c (w : World) (g : Nat) (u0 u1 u2 : Value) : Chg (fun i => i = g) w (((w.setCell ⟨g, 0, none⟩ u0).setCell ⟨g, 1, none⟩ u1).setCell ⟨g, 2, none⟩ u2) := by
  repeat (first | exact Chg.refl _ _ | refine Chg.trans ?_ (Chg.setCell _ _ _ rfl))
theorem set3_heap {w : World} {g : Nat} {c0 c1 c2 : Value} {t : TypeId} {fr : Nat × Nat} (h : w.heap[g]? = some (.cells #[c0, c1, c2] t fr)) (u0 u1 u2 : Value) :
    (((w.setCell ⟨g, 0, none⟩ u0).setCell ⟨g, 1, none⟩ u1).setCell ⟨g, 2, none⟩ u2).heap[g]? = some (.cells #[u0, u1, u2] t fr) := by
  have := heap_set (j := 2) (heap_set (j := 1) (heap_set (j := 0) h u0) u1) u2
  simpa using this
theorem taken_len (s : Sp) (xs : List Msg) (m : Int) : (taken s xs m).length ≤ xs.length := by
  unfold taken
  rw [List.length_take, List.length_drop]
  omega
theorem pw_made {c : Conf} {p k : Nd} {p1 p2 p3 p4 k1 k2 k3 k4 : Value} {w w0 w2 w3 w4 : World} {g : Nat} {A1 A2 A3 A4 B1 B2 B3 B4 : Option Addr} {c1 c2 c3 c4 d1 d2 d3 d4 : Nat}
    (HG : w0.heap[g]? = some (.cells #[.int .i64 c.blocks, .int .i64 c.bytes, .int .i64 c.frames, .int .i64 c.fan, .int .i64 c.buffer, .int .i64 c.leaf, .int .i64 c.key, .int .i64 c.val] 23) ∧ w0.heap[g + 1]? = some (.cells #[.int .i64 p.lev, p1, p2, p3, p4] 29) ∧ w0.heap[g + 1 + 1]? = some (.cells #[.int .i64 k.lev, k1, k2, k3, k4] 29) ∧ w0.heap[g + 1 + 1 + 1]? = some ZeroN ∧ w0.heap[g + 1 + 1 + 1 + 1]? = some ZeroN ∧ w0.heap.size = g + 5)
    (HS2 : Still w0 w2)
    (P2 : SlO g encU 1 w2 (.slice A1 p.kids.length c1) p.kids ∧ SlO g encS 1 w2 (.slice A2 p.piv.length c2) p.piv ∧ SlO g encM 3 w2 (.slice A3 p.buf.length c3) p.buf ∧ SlO g encP 2 w2 (.slice A4 p.prs.length c4) p.prs)
    (Q2 : SlO g encU 1 w2 (.slice B1 k.kids.length d1) k.kids ∧ SlO g encS 1 w2 (.slice B2 k.piv.length d2) k.piv ∧ SlO g encM 3 w2 (.slice B3 k.buf.length d3) k.buf ∧ SlO g encP 2 w2 (.slice B4 k.prs.length d4) k.prs)
    (HX3 : w3.heap[g + 1]? = some (.cells #[.int .i64 p.lev, .slice A1 p.kids.length c1, .slice A2 p.piv.length c2, .slice A3 p.buf.length c3, .slice A4 p.prs.length c4] 29))
    (HC3 : Chg (fun i => i = g + 1) w2 w3)
    (HX4 : w4.heap[g + 1 + 1]? = some (.cells #[.int .i64 k.lev, .slice B1 k.kids.length d1, .slice B2 k.piv.length d2, .slice B3 k.buf.length d3, .slice B4 k.prs.length d4] 29))
    (HC4 : Chg (fun i => i = g + 1 + 1) w3 w4) (HE : Still w w4) (HZ : g + 5 ≤ w4.heap.size) : PW c p k w w4 g := by
  obtain ⟨h0, -, -, h3, h4, -⟩ := HG
  have n1 : ¬ g = g + 1 := by omega
  have n2 : ¬ g = g + 1 + 1 := by omega
  have n3 : ¬ g + 1 = g + 1 + 1 := by omega
  have n4 : ¬ g + 1 + 1 + 1 = g + 1 := by omega
  have n5 : ¬ g + 1 + 1 + 1 = g + 1 + 1 := by omega
  have n6 : ¬ g + 1 + 1 + 1 + 1 = g + 1 := by omega
  have n7 : ¬ g + 1 + 1 + 1 + 1 = g + 1 + 1 := by omega
  have l1 : g ≤ g + 1 ∧ g + 1 < g + 5 := by omega
  have l2 : g ≤ g + 1 + 1 ∧ g + 1 + 1 < g + 5 := by omega
  obtain ⟨q1, q2, q3, q4⟩ := P2
  obtain ⟨r1, r2, r3, r4⟩ := Q2
  have hc := HC4.heap (HC3.heap (HS2.heap h0 id) n1) n2
  exact ⟨⟨heap_cell hc rfl, heap_cell hc rfl, heap_cell hc rfl, heap_cell hc rfl, heap_cell hc rfl, heap_cell hc rfl, heap_cell hc rfl, heap_cell hc rfl⟩,
    ⟨A1, c1, A2, c2, A3, c3, A4, c4, HC4.heap HX3 n3, (q1.far HC3 l1).far HC4 l2, (q2.far HC3 l1).far HC4 l2, (q3.far HC3 l1).far HC4 l2, (q4.far HC3 l1).far HC4 l2⟩,
    ⟨B1, d1, B2, d2, B3, d3, B4, d4, HX4, (r1.far HC3 l1).far HC4 l2, (r2.far HC3 l1).far HC4 l2, (r3.far HC3 l1).far HC4 l2, (r4.far HC3 l1).far HC4 l2⟩,
    HC4.heap (HC3.heap (HS2.heap h3 id) n4) n5, HC4.heap (HC3.heap (HS2.heap h4 id) n6) n7, HE, HZ⟩
set_option maxRecDepth 100000 in
set_option maxHeartbeats 8000000 in
theorem pour7 {c : Conf} {p k : Nd} {at_ most : Int} (H : PourH c p k at_ most) {w : World} {vp vk : Value} (hp : NodeV w vp p) (hk : NodeV w vk k) :
    Calls Try.prog 7 #[.agg c.vs, vp, .int .i64 at_, vk, .int .i64 most] w (PourP (pourP c p at_ k most) (pourK c p at_ k most) (takenP c p at_ k most).length w) := by
  have KP : Hid (∀ w', Still w w' → Calls Try.prog 15 #[vp] w' (NodeP p w')) := Lib.hid (fun w' hs => nclone (hp.still hs) H.np)
  have KK : Hid (∀ w', Still w w' → Calls Try.prog 15 #[vk] w' (NodeP k w')) := Lib.hid (fun w' hs => nclone (hk.still hs) H.nk)
  obtain ⟨p1, p2, p3, p4, rfl, -, -, -, -⟩ := hp
  obtain ⟨k1, k2, k3, k4, rfl, -, -, -, -⟩ := hk
  have HH := Lib.hid H
  clear H
  obtain ⟨g0, g1, g2, g3, g4, gs⟩ := alloc5_at w (.cells #[.int .i64 c.blocks, .int .i64 c.bytes, .int .i64 c.frames, .int .i64 c.fan, .int .i64 c.buffer, .int .i64 c.leaf, .int .i64 c.key, .int .i64 c.val] 23) (.cells #[.int .i64 p.lev, p1, p2, p3, p4] 29) (.cells #[.int .i64 k.lev, k1, k2, k3, k4] 29) ZeroN ZeroN
  have HG := Lib.hid (And.intro g0 (And.intro g1 (And.intro g2 (And.intro g3 (And.intro g4 gs)))))
  have HS0 := Lib.hid (((((Chg.alloc (S := fun _ => False) w (.cells #[.int .i64 c.blocks, .int .i64 c.bytes, .int .i64 c.frames, .int .i64 c.fan, .int .i64 c.buffer, .int .i64 c.leaf, .int .i64 c.key, .int .i64 c.val] 23)).allocs (.cells #[.int .i64 p.lev, p1, p2, p3, p4] 29)).allocs (.cells #[.int .i64 k.lev, k1, k2, k3, k4] 29)).allocs ZeroN).allocs ZeroN)
  clear g0 g1 g2 g3 g4 gs
  unfold ZeroN at HG HS0
  unfold Conf.vs at *
  go_enter Try.func7, Try.ntmps7
  go_upto_region 1 with fail
  generalize ((((w.alloc (.cells #[.int .i64 c.blocks, .int .i64 c.bytes, .int .i64 c.frames, .int .i64 c.fan, .int .i64 c.buffer, .int .i64 c.leaf, .int .i64 c.key, .int .i64 c.val] 23)).alloc (.cells #[.int .i64 p.lev, p1, p2, p3, p4] 29)).alloc (.cells #[.int .i64 k.lev, k1, k2, k3, k4] 29)).alloc (.cells #[.int .i64 0, .slice none 0 0, .slice none 0 0, .slice none 0 0, .slice none 0 0] 29)).alloc (.cells #[.int .i64 0, .slice none 0 0, .slice none 0 0, .slice none 0 0, .slice none 0 0] 29) = w0 at *
  generalize hg : w.heap.size = g at *
  go_cut [17] from 18 to 20 (fun v wx => PW c p k w wx g)
  case first =>
    refine wp_region_held_drew (S := fun w' => Still w w') (by kernel_rfl) (HS0.out.trans (Chg.drew _)) (fun hHeld => ?_)
    refine wpAnyH_ready (rs := [0, 2]) (by kernel_rfl) (by simp) ?_
    refine AllReadyH.cons (o := { dst := some 17, op := _, type := _, pos := _, after := _, guard := _ }) rfl (fun K hK => ?_) (AllReadyH.cons (o := { dst := some 19, op := _, type := _, pos := _, after := _, guard := _ }) rfl (fun K hK => ?_) AllReadyH.nil)
    · have hx := (Chg.drew (S := fun _ => False) w0).heap HG.out.2.1 id
      have q0 := heap_cell (j := 0) hx rfl
      have q1 := heap_cell (j := 1) hx rfl
      have q2 := heap_cell (j := 2) hx rfl
      have q3 := heap_cell (j := 3) hx rfl
      have q4 := heap_cell (j := 4) hx rfl
      clear hx
      go_simp
      clear q0 q1 q2 q3 q4
      refine hK.out _ _ hHeld (fun hHeld => ?_)
      clear hK K
      try simp only [Act.put, List.setIfInBounds_toArray, List.set_cons_zero, List.set_cons_succ]
      refine wpAnyH_ready (rs := [1, 2]) (by kernel_rfl) (by simp) ?_
      refine AllReadyH.cons (o := { dst := some 18, op := _, type := _, pos := _, after := _, guard := _ }) rfl (fun K hK => ?_) (AllReadyH.cons (o := { dst := some 19, op := _, type := _, pos := _, after := _, guard := _ }) rfl (fun K hK => ?_) AllReadyH.nil)
      · go_simp
        refine (KP.out _ hHeld).mono ?_
        rintro e w1 ⟨v18, rfl, hv, hs⟩
        go_wp2_with fail
        refine hK.out _ _ (hHeld.trans hs) (fun hHeld => ?_)
        clear hK K
        obtain ⟨x1, x2, x3, x4, rfl, s1, s2, s3, s4⟩ := hv
        obtain ⟨A1, c1, rfl, -, -⟩ := s1.1.form
        obtain ⟨A2, c2, rfl, -, -⟩ := s2.1.form
        obtain ⟨A3, c3, rfl, -, -⟩ := s3.1.form
        obtain ⟨A4, c4, rfl, -, -⟩ := s4.1.form
        have hz0 : g + 5 ≤ w0.drew.heap.size := by have := HG.out.2.2.2.2.2; show g + 5 ≤ w0.heap.size; omega
        have P1 := Lib.hid (And.intro (s1.outO hz0) (And.intro (s2.outO hz0) (And.intro (s3.outO hz0) (s4.outO hz0))))
        have HS1 := Lib.hid ((Chg.drew (S := fun _ => False) w0).trans hs)
        have hz1 : g + 5 ≤ w1.heap.size := Nat.le_trans hz0 hs.size
        have HZ1 := Lib.hid hz1
        clear s1 s2 s3 s4 hs hz0 hz1
        try simp only [Act.put, List.setIfInBounds_toArray, List.set_cons_zero, List.set_cons_succ]
        refine wpAnyH_ready (rs := [2]) (by kernel_rfl) (by simp) ?_
        refine AllReadyH.cons (o := { dst := some 19, op := _, type := _, pos := _, after := _, guard := _ }) rfl (fun K hK => ?_) AllReadyH.nil
        have hx := HS1.out.heap HG.out.2.2.1 id
        have q0 := heap_cell (j := 0) hx rfl
        have q1 := heap_cell (j := 1) hx rfl
        have q2 := heap_cell (j := 2) hx rfl
        have q3 := heap_cell (j := 3) hx rfl
        have q4 := heap_cell (j := 4) hx rfl
        clear hx
        go_simp
        clear q0 q1 q2 q3 q4
        refine hK.out _ _ hHeld (fun hHeld => ?_)
        clear hK K
        try simp only [Act.put, List.setIfInBounds_toArray, List.set_cons_zero, List.set_cons_succ]
        refine wpAnyH_ready (rs := [3]) (by kernel_rfl) (by simp) ?_
        refine AllReadyH.cons (o := { dst := some 20, op := _, type := _, pos := _, after := _, guard := _ }) rfl (fun K hK => ?_) AllReadyH.nil
        go_simp
        refine (KK.out _ hHeld).mono ?_
        rintro e w2 ⟨v20, rfl, hv, hs⟩
        go_wp2_with fail
        refine hK.out _ _ (hHeld.trans hs) (fun hHeld => ?_)
        clear hK K
        obtain ⟨x1, x2, x3, x4, rfl, s1, s2, s3, s4⟩ := hv
        obtain ⟨B1, d1, rfl, -, -⟩ := s1.1.form
        obtain ⟨B2, d2, rfl, -, -⟩ := s2.1.form
        obtain ⟨B3, d3, rfl, -, -⟩ := s3.1.form
        obtain ⟨B4, d4, rfl, -, -⟩ := s4.1.form
        have P2 := Lib.hid (And.intro (P1.out.1.still hs) (And.intro (P1.out.2.1.still hs) (And.intro (P1.out.2.2.1.still hs) (P1.out.2.2.2.still hs))))
        have Q2 := Lib.hid (And.intro (s1.outO HZ1.out) (And.intro (s2.outO HZ1.out) (And.intro (s3.outO HZ1.out) (s4.outO HZ1.out))))
        have HS2 := Lib.hid (HS1.out.trans hs)
        have hz2 : g + 5 ≤ w2.heap.size := Nat.le_trans HZ1.out hs.size
        have HZ2 := Lib.hid hz2
        clear s1 s2 s3 s4 hs hz2 P1 HS1 HZ1
        try simp only [Act.put, List.setIfInBounds_toArray, List.set_cons_zero, List.set_cons_succ]
        have hx := HS2.out.heap HG.out.2.1 id
        have q0 := heap_cell (j := 0) hx rfl
        have q1 := heap_cell (j := 1) hx rfl
        have q2 := heap_cell (j := 2) hx rfl
        have q3 := heap_cell (j := 3) hx rfl
        have q4 := heap_cell (j := 4) hx rfl
        have f0 := heap_free (j := 0) hx
        have f1 := heap_free (j := 1) hx
        have f2 := heap_free (j := 2) hx
        have f3 := heap_free (j := 3) hx
        have f4 := heap_free (j := 4) hx
        clear hx
        refine wpAnyH_ready (rs := [4]) (by kernel_rfl) (by simp) ?_
        refine AllReadyH.cons (o := { dst := none, op := _, type := _, pos := _, after := _, guard := _ }) rfl (fun K hK => ?_) AllReadyH.nil
        go_simp
        refine hK.out _ _ (hHeld.then (set5 (w := w2) (g + 1) (.int .i64 p.lev) (.slice A1 p.kids.length c1) (.slice A2 p.piv.length c2) (.slice A3 p.buf.length c3) (.slice A4 p.prs.length c4)) (fun i hi => .inr (by rw [show i = g + 1 from hi]; omega))) (fun hHeld => ?_)
        clear hK K
        try simp only [Act.put, List.setIfInBounds_toArray, List.set_cons_zero, List.set_cons_succ]
        clear q0 q1 q2 q3 q4 f0 f1 f2 f3 f4
        have hx := set5_heap (HS2.out.heap HG.out.2.1 id) (.int .i64 p.lev) (.slice A1 p.kids.length c1) (.slice A2 p.piv.length c2) (.slice A3 p.buf.length c3) (.slice A4 p.prs.length c4)
        have HX3 := Lib.hid hx
        have HC3 := Lib.hid (set5 (w := w2) (g + 1) (.int .i64 p.lev) (.slice A1 p.kids.length c1) (.slice A2 p.piv.length c2) (.slice A3 p.buf.length c3) (.slice A4 p.prs.length c4))
        have HZ3 := Lib.hid (Nat.le_trans HZ2.out HC3.out.size)
        clear hx
        generalize (((((w2.setCell ⟨g + 1, 0, none⟩ (.int .i64 p.lev)).setCell ⟨g + 1, 1, none⟩ (.slice A1 p.kids.length c1)).setCell ⟨g + 1, 2, none⟩ (.slice A2 p.piv.length c2)).setCell ⟨g + 1, 3, none⟩ (.slice A3 p.buf.length c3)).setCell ⟨g + 1, 4, none⟩ (.slice A4 p.prs.length c4)) = w3 at *
        have hn : ¬ (g + 1 + 1 : Nat) = g + 1 := by omega
        have hx := HC3.out.heap (HS2.out.heap HG.out.2.2.1 id) hn
        have q0 := heap_cell (j := 0) hx rfl
        have q1 := heap_cell (j := 1) hx rfl
        have q2 := heap_cell (j := 2) hx rfl
        have q3 := heap_cell (j := 3) hx rfl
        have q4 := heap_cell (j := 4) hx rfl
        have f0 := heap_free (j := 0) hx
        have f1 := heap_free (j := 1) hx
        have f2 := heap_free (j := 2) hx
        have f3 := heap_free (j := 3) hx
        have f4 := heap_free (j := 4) hx
        have HY3 := Lib.hid hx
        clear hx hn
        refine wpAnyH_ready (rs := [5]) (by kernel_rfl) (by simp) ?_
        refine AllReadyH.cons (o := { dst := none, op := _, type := _, pos := _, after := _, guard := _ }) rfl (fun K hK => ?_) AllReadyH.nil
        go_simp
        refine hK.out _ _ (hHeld.then (set5 (w := w3) (g + 1 + 1) (.int .i64 k.lev) (.slice B1 k.kids.length d1) (.slice B2 k.piv.length d2) (.slice B3 k.buf.length d3) (.slice B4 k.prs.length d4)) (fun i hi => .inr (by rw [show i = g + 1 + 1 from hi]; omega))) (fun hHeld => ?_)
        clear hK K
        try simp only [Act.put, List.setIfInBounds_toArray, List.set_cons_zero, List.set_cons_succ]
        clear q0 q1 q2 q3 q4 f0 f1 f2 f3 f4
        have HX4 := Lib.hid (set5_heap HY3.out (.int .i64 k.lev) (.slice B1 k.kids.length d1) (.slice B2 k.piv.length d2) (.slice B3 k.buf.length d3) (.slice B4 k.prs.length d4))
        have HC4 := Lib.hid (set5 (w := w3) (g + 1 + 1) (.int .i64 k.lev) (.slice B1 k.kids.length d1) (.slice B2 k.piv.length d2) (.slice B3 k.buf.length d3) (.slice B4 k.prs.length d4))
        have HZ4 := Lib.hid (Nat.le_trans HZ3.out HC4.out.size)
        generalize (((((w3.setCell ⟨g + 1 + 1, 0, none⟩ (.int .i64 k.lev)).setCell ⟨g + 1 + 1, 1, none⟩ (.slice B1 k.kids.length d1)).setCell ⟨g + 1 + 1, 2, none⟩ (.slice B2 k.piv.length d2)).setCell ⟨g + 1 + 1, 3, none⟩ (.slice B3 k.buf.length d3)).setCell ⟨g + 1 + 1, 4, none⟩ (.slice B4 k.prs.length d4)) = w4 at *
        refine wpAnyH_done (by kernel_rfl) ?_ _
        have HE4 := Lib.hid hHeld
        clear hHeld
        go_wp2
        go_meet
        exact pw_made HG.out HS2.out P2.out Q2.out HX3.out HC3.out HX4.out HC4.out HE4.out HZ4.out
      · have hx := (Chg.drew (S := fun _ => False) w0).heap HG.out.2.2.1 id
        have q0 := heap_cell (j := 0) hx rfl
        have q1 := heap_cell (j := 1) hx rfl
        have q2 := heap_cell (j := 2) hx rfl
        have q3 := heap_cell (j := 3) hx rfl
        have q4 := heap_cell (j := 4) hx rfl
        clear hx
        go_simp
        clear q0 q1 q2 q3 q4
        refine hK.out _ _ hHeld (fun hHeld => ?_)
        clear hK K
        try simp only [Act.put, List.setIfInBounds_toArray, List.set_cons_zero, List.set_cons_succ]
        refine wpAnyH_ready (rs := [1]) (by kernel_rfl) (by simp) ?_
        refine AllReadyH.cons (o := { dst := some 18, op := _, type := _, pos := _, after := _, guard := _ }) rfl (fun K hK => ?_) AllReadyH.nil
        go_simp
        refine (KP.out _ hHeld).mono ?_
        rintro e w1 ⟨v18, rfl, hv, hs⟩
        go_wp2_with fail
        refine hK.out _ _ (hHeld.trans hs) (fun hHeld => ?_)
        clear hK K
        obtain ⟨x1, x2, x3, x4, rfl, s1, s2, s3, s4⟩ := hv
        obtain ⟨A1, c1, rfl, -, -⟩ := s1.1.form
        obtain ⟨A2, c2, rfl, -, -⟩ := s2.1.form
        obtain ⟨A3, c3, rfl, -, -⟩ := s3.1.form
        obtain ⟨A4, c4, rfl, -, -⟩ := s4.1.form
        have hz0 : g + 5 ≤ w0.drew.heap.size := by have := HG.out.2.2.2.2.2; show g + 5 ≤ w0.heap.size; omega
        have P1 := Lib.hid (And.intro (s1.outO hz0) (And.intro (s2.outO hz0) (And.intro (s3.outO hz0) (s4.outO hz0))))
        have HS1 := Lib.hid ((Chg.drew (S := fun _ => False) w0).trans hs)
        have hz1 : g + 5 ≤ w1.heap.size := Nat.le_trans hz0 hs.size
        have HZ1 := Lib.hid hz1
        clear s1 s2 s3 s4 hs hz0 hz1
        try simp only [Act.put, List.setIfInBounds_toArray, List.set_cons_zero, List.set_cons_succ]
        refine wpAnyH_ready (rs := [3]) (by kernel_rfl) (by simp) ?_
        refine AllReadyH.cons (o := { dst := some 20, op := _, type := _, pos := _, after := _, guard := _ }) rfl (fun K hK => ?_) AllReadyH.nil
        go_simp
        refine (KK.out _ hHeld).mono ?_
        rintro e w2 ⟨v20, rfl, hv, hs⟩
        go_wp2_with fail
        refine hK.out _ _ (hHeld.trans hs) (fun hHeld => ?_)
        clear hK K
        obtain ⟨x1, x2, x3, x4, rfl, s1, s2, s3, s4⟩ := hv
        obtain ⟨B1, d1, rfl, -, -⟩ := s1.1.form
        obtain ⟨B2, d2, rfl, -, -⟩ := s2.1.form
        obtain ⟨B3, d3, rfl, -, -⟩ := s3.1.form
        obtain ⟨B4, d4, rfl, -, -⟩ := s4.1.form
        have P2 := Lib.hid (And.intro (P1.out.1.still hs) (And.intro (P1.out.2.1.still hs) (And.intro (P1.out.2.2.1.still hs) (P1.out.2.2.2.still hs))))
        have Q2 := Lib.hid (And.intro (s1.outO HZ1.out) (And.intro (s2.outO HZ1.out) (And.intro (s3.outO HZ1.out) (s4.outO HZ1.out))))
        have HS2 := Lib.hid (HS1.out.trans hs)
        have hz2 : g + 5 ≤ w2.heap.size := Nat.le_trans HZ1.out hs.size
        have HZ2 := Lib.hid hz2
        clear s1 s2 s3 s4 hs hz2 P1 HS1 HZ1
        try simp only [Act.put, List.setIfInBounds_toArray, List.set_cons_zero, List.set_cons_succ]
        have hx := HS2.out.heap HG.out.2.1 id
        have q0 := heap_cell (j := 0) hx rfl
        have q1 := heap_cell (j := 1) hx rfl
        have q2 := heap_cell (j := 2) hx rfl
        have q3 := heap_cell (j := 3) hx rfl
        have q4 := heap_cell (j := 4) hx rfl
        have f0 := heap_free (j := 0) hx
        have f1 := heap_free (j := 1) hx
        have f2 := heap_free (j := 2) hx
        have f3 := heap_free (j := 3) hx
        have f4 := heap_free (j := 4) hx
        clear hx
        refine wpAnyH_ready (rs := [4]) (by kernel_rfl) (by simp) ?_
        refine AllReadyH.cons (o := { dst := none, op := _, type := _, pos := _, after := _, guard := _ }) rfl (fun K hK => ?_) AllReadyH.nil
        go_simp
        refine hK.out _ _ (hHeld.then (set5 (w := w2) (g + 1) (.int .i64 p.lev) (.slice A1 p.kids.length c1) (.slice A2 p.piv.length c2) (.slice A3 p.buf.length c3) (.slice A4 p.prs.length c4)) (fun i hi => .inr (by rw [show i = g + 1 from hi]; omega))) (fun hHeld => ?_)
        clear hK K
        try simp only [Act.put, List.setIfInBounds_toArray, List.set_cons_zero, List.set_cons_succ]
        clear q0 q1 q2 q3 q4 f0 f1 f2 f3 f4
        have hx := set5_heap (HS2.out.heap HG.out.2.1 id) (.int .i64 p.lev) (.slice A1 p.kids.length c1) (.slice A2 p.piv.length c2) (.slice A3 p.buf.length c3) (.slice A4 p.prs.length c4)
        have HX3 := Lib.hid hx
        have HC3 := Lib.hid (set5 (w := w2) (g + 1) (.int .i64 p.lev) (.slice A1 p.kids.length c1) (.slice A2 p.piv.length c2) (.slice A3 p.buf.length c3) (.slice A4 p.prs.length c4))
        have HZ3 := Lib.hid (Nat.le_trans HZ2.out HC3.out.size)
        clear hx
        generalize (((((w2.setCell ⟨g + 1, 0, none⟩ (.int .i64 p.lev)).setCell ⟨g + 1, 1, none⟩ (.slice A1 p.kids.length c1)).setCell ⟨g + 1, 2, none⟩ (.slice A2 p.piv.length c2)).setCell ⟨g + 1, 3, none⟩ (.slice A3 p.buf.length c3)).setCell ⟨g + 1, 4, none⟩ (.slice A4 p.prs.length c4)) = w3 at *
        have hn : ¬ (g + 1 + 1 : Nat) = g + 1 := by omega
        have hx := HC3.out.heap (HS2.out.heap HG.out.2.2.1 id) hn
        have q0 := heap_cell (j := 0) hx rfl
        have q1 := heap_cell (j := 1) hx rfl
        have q2 := heap_cell (j := 2) hx rfl
        have q3 := heap_cell (j := 3) hx rfl
        have q4 := heap_cell (j := 4) hx rfl
        have f0 := heap_free (j := 0) hx
        have f1 := heap_free (j := 1) hx
        have f2 := heap_free (j := 2) hx
        have f3 := heap_free (j := 3) hx
        have f4 := heap_free (j := 4) hx
        have HY3 := Lib.hid hx
        clear hx hn
        refine wpAnyH_ready (rs := [5]) (by kernel_rfl) (by simp) ?_
        refine AllReadyH.cons (o := { dst := none, op := _, type := _, pos := _, after := _, guard := _ }) rfl (fun K hK => ?_) AllReadyH.nil
        go_simp
        refine hK.out _ _ (hHeld.then (set5 (w := w3) (g + 1 + 1) (.int .i64 k.lev) (.slice B1 k.kids.length d1) (.slice B2 k.piv.length d2) (.slice B3 k.buf.length d3) (.slice B4 k.prs.length d4)) (fun i hi => .inr (by rw [show i = g + 1 + 1 from hi]; omega))) (fun hHeld => ?_)
        clear hK K
        try simp only [Act.put, List.setIfInBounds_toArray, List.set_cons_zero, List.set_cons_succ]
        clear q0 q1 q2 q3 q4 f0 f1 f2 f3 f4
        have HX4 := Lib.hid (set5_heap HY3.out (.int .i64 k.lev) (.slice B1 k.kids.length d1) (.slice B2 k.piv.length d2) (.slice B3 k.buf.length d3) (.slice B4 k.prs.length d4))
        have HC4 := Lib.hid (set5 (w := w3) (g + 1 + 1) (.int .i64 k.lev) (.slice B1 k.kids.length d1) (.slice B2 k.piv.length d2) (.slice B3 k.buf.length d3) (.slice B4 k.prs.length d4))
        have HZ4 := Lib.hid (Nat.le_trans HZ3.out HC4.out.size)
        generalize (((((w3.setCell ⟨g + 1 + 1, 0, none⟩ (.int .i64 k.lev)).setCell ⟨g + 1 + 1, 1, none⟩ (.slice B1 k.kids.length d1)).setCell ⟨g + 1 + 1, 2, none⟩ (.slice B2 k.piv.length d2)).setCell ⟨g + 1 + 1, 3, none⟩ (.slice B3 k.buf.length d3)).setCell ⟨g + 1 + 1, 4, none⟩ (.slice B4 k.prs.length d4)) = w4 at *
        refine wpAnyH_done (by kernel_rfl) ?_ _
        have HE4 := Lib.hid hHeld
        clear hHeld
        go_wp2
        go_meet
        exact pw_made HG.out HS2.out P2.out Q2.out HX3.out HC3.out HX4.out HC4.out HE4.out HZ4.out
    · have hx := (Chg.drew (S := fun _ => False) w0).heap HG.out.2.2.1 id
      have q0 := heap_cell (j := 0) hx rfl
      have q1 := heap_cell (j := 1) hx rfl
      have q2 := heap_cell (j := 2) hx rfl
      have q3 := heap_cell (j := 3) hx rfl
      have q4 := heap_cell (j := 4) hx rfl
      clear hx
      go_simp
      clear q0 q1 q2 q3 q4
      refine hK.out _ _ hHeld (fun hHeld => ?_)
      clear hK K
      try simp only [Act.put, List.setIfInBounds_toArray, List.set_cons_zero, List.set_cons_succ]
      refine wpAnyH_ready (rs := [0]) (by kernel_rfl) (by simp) ?_
      refine AllReadyH.cons (o := { dst := some 17, op := _, type := _, pos := _, after := _, guard := _ }) rfl (fun K hK => ?_) AllReadyH.nil
      have hx := (Chg.drew (S := fun _ => False) w0).heap HG.out.2.1 id
      have q0 := heap_cell (j := 0) hx rfl
      have q1 := heap_cell (j := 1) hx rfl
      have q2 := heap_cell (j := 2) hx rfl
      have q3 := heap_cell (j := 3) hx rfl
      have q4 := heap_cell (j := 4) hx rfl
      clear hx
      go_simp
      clear q0 q1 q2 q3 q4
      refine hK.out _ _ hHeld (fun hHeld => ?_)
      clear hK K
      try simp only [Act.put, List.setIfInBounds_toArray, List.set_cons_zero, List.set_cons_succ]
      refine wpAnyH_ready (rs := [1]) (by kernel_rfl) (by simp) ?_
      refine AllReadyH.cons (o := { dst := some 18, op := _, type := _, pos := _, after := _, guard := _ }) rfl (fun K hK => ?_) AllReadyH.nil
      go_simp
      refine (KP.out _ hHeld).mono ?_
      rintro e w1 ⟨v18, rfl, hv, hs⟩
      go_wp2_with fail
      refine hK.out _ _ (hHeld.trans hs) (fun hHeld => ?_)
      clear hK K
      obtain ⟨x1, x2, x3, x4, rfl, s1, s2, s3, s4⟩ := hv
      obtain ⟨A1, c1, rfl, -, -⟩ := s1.1.form
      obtain ⟨A2, c2, rfl, -, -⟩ := s2.1.form
      obtain ⟨A3, c3, rfl, -, -⟩ := s3.1.form
      obtain ⟨A4, c4, rfl, -, -⟩ := s4.1.form
      have hz0 : g + 5 ≤ w0.drew.heap.size := by have := HG.out.2.2.2.2.2; show g + 5 ≤ w0.heap.size; omega
      have P1 := Lib.hid (And.intro (s1.outO hz0) (And.intro (s2.outO hz0) (And.intro (s3.outO hz0) (s4.outO hz0))))
      have HS1 := Lib.hid ((Chg.drew (S := fun _ => False) w0).trans hs)
      have hz1 : g + 5 ≤ w1.heap.size := Nat.le_trans hz0 hs.size
      have HZ1 := Lib.hid hz1
      clear s1 s2 s3 s4 hs hz0 hz1
      try simp only [Act.put, List.setIfInBounds_toArray, List.set_cons_zero, List.set_cons_succ]
      refine wpAnyH_ready (rs := [3]) (by kernel_rfl) (by simp) ?_
      refine AllReadyH.cons (o := { dst := some 20, op := _, type := _, pos := _, after := _, guard := _ }) rfl (fun K hK => ?_) AllReadyH.nil
      go_simp
      refine (KK.out _ hHeld).mono ?_
      rintro e w2 ⟨v20, rfl, hv, hs⟩
      go_wp2_with fail
      refine hK.out _ _ (hHeld.trans hs) (fun hHeld => ?_)
      clear hK K
      obtain ⟨x1, x2, x3, x4, rfl, s1, s2, s3, s4⟩ := hv
      obtain ⟨B1, d1, rfl, -, -⟩ := s1.1.form
      obtain ⟨B2, d2, rfl, -, -⟩ := s2.1.form
      obtain ⟨B3, d3, rfl, -, -⟩ := s3.1.form
      obtain ⟨B4, d4, rfl, -, -⟩ := s4.1.form
      have P2 := Lib.hid (And.intro (P1.out.1.still hs) (And.intro (P1.out.2.1.still hs) (And.intro (P1.out.2.2.1.still hs) (P1.out.2.2.2.still hs))))
      have Q2 := Lib.hid (And.intro (s1.outO HZ1.out) (And.intro (s2.outO HZ1.out) (And.intro (s3.outO HZ1.out) (s4.outO HZ1.out))))
      have HS2 := Lib.hid (HS1.out.trans hs)
      have hz2 : g + 5 ≤ w2.heap.size := Nat.le_trans HZ1.out hs.size
      have HZ2 := Lib.hid hz2
      clear s1 s2 s3 s4 hs hz2 P1 HS1 HZ1
      try simp only [Act.put, List.setIfInBounds_toArray, List.set_cons_zero, List.set_cons_succ]
      have hx := HS2.out.heap HG.out.2.1 id
      have q0 := heap_cell (j := 0) hx rfl
      have q1 := heap_cell (j := 1) hx rfl
      have q2 := heap_cell (j := 2) hx rfl
      have q3 := heap_cell (j := 3) hx rfl
      have q4 := heap_cell (j := 4) hx rfl
      have f0 := heap_free (j := 0) hx
      have f1 := heap_free (j := 1) hx
      have f2 := heap_free (j := 2) hx
      have f3 := heap_free (j := 3) hx
      have f4 := heap_free (j := 4) hx
      clear hx
      refine wpAnyH_ready (rs := [4]) (by kernel_rfl) (by simp) ?_
      refine AllReadyH.cons (o := { dst := none, op := _, type := _, pos := _, after := _, guard := _ }) rfl (fun K hK => ?_) AllReadyH.nil
      go_simp
      refine hK.out _ _ (hHeld.then (set5 (w := w2) (g + 1) (.int .i64 p.lev) (.slice A1 p.kids.length c1) (.slice A2 p.piv.length c2) (.slice A3 p.buf.length c3) (.slice A4 p.prs.length c4)) (fun i hi => .inr (by rw [show i = g + 1 from hi]; omega))) (fun hHeld => ?_)
      clear hK K
      try simp only [Act.put, List.setIfInBounds_toArray, List.set_cons_zero, List.set_cons_succ]
      clear q0 q1 q2 q3 q4 f0 f1 f2 f3 f4
      have hx := set5_heap (HS2.out.heap HG.out.2.1 id) (.int .i64 p.lev) (.slice A1 p.kids.length c1) (.slice A2 p.piv.length c2) (.slice A3 p.buf.length c3) (.slice A4 p.prs.length c4)
      have HX3 := Lib.hid hx
      have HC3 := Lib.hid (set5 (w := w2) (g + 1) (.int .i64 p.lev) (.slice A1 p.kids.length c1) (.slice A2 p.piv.length c2) (.slice A3 p.buf.length c3) (.slice A4 p.prs.length c4))
      have HZ3 := Lib.hid (Nat.le_trans HZ2.out HC3.out.size)
      clear hx
      generalize (((((w2.setCell ⟨g + 1, 0, none⟩ (.int .i64 p.lev)).setCell ⟨g + 1, 1, none⟩ (.slice A1 p.kids.length c1)).setCell ⟨g + 1, 2, none⟩ (.slice A2 p.piv.length c2)).setCell ⟨g + 1, 3, none⟩ (.slice A3 p.buf.length c3)).setCell ⟨g + 1, 4, none⟩ (.slice A4 p.prs.length c4)) = w3 at *
      have hn : ¬ (g + 1 + 1 : Nat) = g + 1 := by omega
      have hx := HC3.out.heap (HS2.out.heap HG.out.2.2.1 id) hn
      have q0 := heap_cell (j := 0) hx rfl
      have q1 := heap_cell (j := 1) hx rfl
      have q2 := heap_cell (j := 2) hx rfl
      have q3 := heap_cell (j := 3) hx rfl
      have q4 := heap_cell (j := 4) hx rfl
      have f0 := heap_free (j := 0) hx
      have f1 := heap_free (j := 1) hx
      have f2 := heap_free (j := 2) hx
      have f3 := heap_free (j := 3) hx
      have f4 := heap_free (j := 4) hx
      have HY3 := Lib.hid hx
      clear hx hn
      refine wpAnyH_ready (rs := [5]) (by kernel_rfl) (by simp) ?_
      refine AllReadyH.cons (o := { dst := none, op := _, type := _, pos := _, after := _, guard := _ }) rfl (fun K hK => ?_) AllReadyH.nil
      go_simp
      refine hK.out _ _ (hHeld.then (set5 (w := w3) (g + 1 + 1) (.int .i64 k.lev) (.slice B1 k.kids.length d1) (.slice B2 k.piv.length d2) (.slice B3 k.buf.length d3) (.slice B4 k.prs.length d4)) (fun i hi => .inr (by rw [show i = g + 1 + 1 from hi]; omega))) (fun hHeld => ?_)
      clear hK K
      try simp only [Act.put, List.setIfInBounds_toArray, List.set_cons_zero, List.set_cons_succ]
      clear q0 q1 q2 q3 q4 f0 f1 f2 f3 f4
      have HX4 := Lib.hid (set5_heap HY3.out (.int .i64 k.lev) (.slice B1 k.kids.length d1) (.slice B2 k.piv.length d2) (.slice B3 k.buf.length d3) (.slice B4 k.prs.length d4))
      have HC4 := Lib.hid (set5 (w := w3) (g + 1 + 1) (.int .i64 k.lev) (.slice B1 k.kids.length d1) (.slice B2 k.piv.length d2) (.slice B3 k.buf.length d3) (.slice B4 k.prs.length d4))
      have HZ4 := Lib.hid (Nat.le_trans HZ3.out HC4.out.size)
      generalize (((((w3.setCell ⟨g + 1 + 1, 0, none⟩ (.int .i64 k.lev)).setCell ⟨g + 1 + 1, 1, none⟩ (.slice B1 k.kids.length d1)).setCell ⟨g + 1 + 1, 2, none⟩ (.slice B2 k.piv.length d2)).setCell ⟨g + 1 + 1, 3, none⟩ (.slice B3 k.buf.length d3)).setCell ⟨g + 1 + 1, 4, none⟩ (.slice B4 k.prs.length d4)) = w4 at *
      refine wpAnyH_done (by kernel_rfl) ?_ _
      have HE4 := Lib.hid hHeld
      clear hHeld
      go_wp2
      go_meet
      exact pw_made HG.out HS2.out P2.out Q2.out HX3.out HC3.out HX4.out HC4.out HE4.out HZ4.out
  case rest =>
    have HPW := Lib.hid hcut
    clear hcut
    have hg0 : w.heap.size ≤ g := by omega
    go_upto_region 2 with fail
    go_cut [41] from 21 to 40 (fun v wx => v = .bool (decide (earlyP p k at_ most)) ∧ PW c p k w wx g)
    case first =>
      obtain ⟨-, ⟨A1, c1, A2, c2, A3, c3, A4, c4, hp⟩, ⟨B1, d1, B2, d2, B3, d3, B4, d4, hk⟩, -, -, -, -⟩ := HPW.out
      have p0 := heap_cell (j := 0) hp.at_ rfl
      have p1' := heap_cell (j := 1) hp.at_ rfl
      have k0' := heap_cell (j := 0) hk.at_ rfl
      clear hp hk
      have hl1 := HH.out.lp
      have hl2 := HH.out.lk
      have hnk := HH.out.np.kids
      by_cases e1 : at_ < 0
      · have HD : Hid (decide (earlyP p k at_ most) = true) := Lib.hid (decide_eq_true (.inl e1))
        go_wp2
        go_meet
        exact ⟨by rw [HD.out], HPW.out⟩
      by_cases e2 : (p.kids.length : Int) ≤ at_
      · have HD : Hid (decide (earlyP p k at_ most) = true) := Lib.hid (decide_eq_true (.inr (.inl e2)))
        go_wp2
        go_meet
        exact ⟨by rw [HD.out], HPW.out⟩
      by_cases e3 : p.lev = k.lev + 1
      case neg =>
        have HD : Hid (decide (earlyP p k at_ most) = true) := Lib.hid (decide_eq_true (.inr (.inr (.inl e3))))
        have e4 : (p.lev == k.lev + 1) = false := beq_eq_false_iff_ne.2 e3
        have e5 : (p.lev != k.lev + 1) = true := by rw [bne, e4]; rfl
        go_wp2
        go_meet
        exact ⟨by rw [HD.out], HPW.out⟩
      have e4 : (p.lev == k.lev + 1) = true := beq_iff_eq.2 e3
      have e5 : (p.lev != k.lev + 1) = false := by rw [bne, e4]; rfl
      by_cases e6 : most < 1
      · have HD : Hid (decide (earlyP p k at_ most) = true) := Lib.hid (decide_eq_true (.inr (.inr (.inr e6))))
        have HE3 := Lib.hid e3
        clear e3
        go_wp2
        go_meet
        exact ⟨by rw [HD.out], HPW.out⟩
      · have HD : Hid (decide (earlyP p k at_ most) = false) := Lib.hid (decide_eq_false (by rintro (h | h | h | h) <;> omega))
        have HE3 := Lib.hid e3
        clear e3
        go_wp2
        go_meet
        exact ⟨by rw [HD.out], HPW.out⟩
    clear HPW
    case rest =>
      obtain ⟨hv, hpw⟩ := hcut
      have HPW := Lib.hid hpw
      clear hpw
      cases he : decide (earlyP p k at_ most) with
      | true =>
        rw [he] at hv
        have HEA : Hid (earlyP p k at_ most) := Lib.hid (of_decide_eq_true he)
        clear he
        subst hv
        have HQ : Hid (pourP c p at_ k most = p ∧ pourK c p at_ k most = k ∧ (takenP c p at_ k most).length = 0) := Lib.hid (by
          unfold pourP pourK takenP
          rw [if_pos HEA.out, if_pos HEA.out, if_pos HEA.out]
          exact ⟨rfl, rfl, rfl⟩)
        clear HEA
        go_upto_region 3 with fail
        obtain ⟨-, ⟨A1, c1, A2, c2, A3, c3, A4, c4, hp⟩, ⟨B1, d1, B2, d2, B3, d3, B4, d4, hk⟩, z1, z2, hst, hsz⟩ := HPW.out
        have HP := Lib.hid hp
        have HK := Lib.hid hk
        have HZ1 := Lib.hid z1
        have HZ2 := Lib.hid z2
        have HSZ := Lib.hid hsz
        have hpD := hp.at_
        have hkD := hk.at_
        unfold ZeroN at z1 z2 HZ1 HZ2
        have hD := Chg.drew (S := fun _ => False) wc
        have hp' := hD.heap hpD id
        have hk' := hD.heap hkD id
        have H0 := Lib.hid (And.intro (heap_cell (j := 0) hp' rfl) (And.intro (heap_cell (j := 1) hp' rfl) (And.intro (heap_cell (j := 2) hp' rfl) (And.intro (heap_cell (j := 3) hp' rfl) (And.intro (heap_cell (j := 4) hp' rfl) (And.intro (heap_cell (j := 0) hk' rfl) (And.intro (heap_cell (j := 1) hk' rfl) (And.intro (heap_cell (j := 2) hk' rfl) (And.intro (heap_cell (j := 3) hk' rfl) (And.intro (heap_cell (j := 4) hk' rfl) (hst.trans hD)))))))))))
        clear hpD hkD hD hp' hk' hp hk z1 z2 hst hsz
        refine wp_region_held_drew (S := fun w' => w'.cell? ⟨g + 1, 0, none⟩ = some (.int .i64 p.lev) ∧ w'.cell? ⟨g + 1, 1, none⟩ = some (.slice A1 p.kids.length c1) ∧ w'.cell? ⟨g + 1, 2, none⟩ = some (.slice A2 p.piv.length c2) ∧ w'.cell? ⟨g + 1, 3, none⟩ = some (.slice A3 p.buf.length c3) ∧ w'.cell? ⟨g + 1, 4, none⟩ = some (.slice A4 p.prs.length c4) ∧ w'.cell? ⟨g + 1 + 1, 0, none⟩ = some (.int .i64 k.lev) ∧ w'.cell? ⟨g + 1 + 1, 1, none⟩ = some (.slice B1 k.kids.length d1) ∧ w'.cell? ⟨g + 1 + 1, 2, none⟩ = some (.slice B2 k.piv.length d2) ∧ w'.cell? ⟨g + 1 + 1, 3, none⟩ = some (.slice B3 k.buf.length d3) ∧ w'.cell? ⟨g + 1 + 1, 4, none⟩ = some (.slice B4 k.prs.length d4) ∧ Still w w') (by kernel_rfl) H0.out (fun hHeld => ?_)
        refine wpAnyH_take (i := 0) (oi := { dst := some 42, op := _, type := _, pos := _, after := _, guard := _ }) (v := ?_) rfl (by kernel_rfl) (by kernel_rfl) (by kernel_rfl) (fun _ _ _ h => h) (Or.inl ⟨by rfl, ?_⟩) (by assumption) ?_
        case refine_2 => intro w hSw; (try dsimp only at hSw); go_simp; all_goals (with_reducible rfl)
        try simp only [Act.put, List.setIfInBounds_toArray, List.set_cons_zero, List.set_cons_succ]
        refine wpAnyH_take (i := 1) (oi := { dst := some 43, op := _, type := _, pos := _, after := _, guard := _ }) (v := ?_) rfl (by kernel_rfl) (by kernel_rfl) (by kernel_rfl) (fun _ _ _ h => h) (Or.inl ⟨by rfl, ?_⟩) (by assumption) ?_
        case refine_2 => intro w hSw; (try dsimp only at hSw); go_simp; all_goals (with_reducible rfl)
        try simp only [Act.put, List.setIfInBounds_toArray, List.set_cons_zero, List.set_cons_succ]
        have HDR := Lib.hid (Chg.drew (S := fun _ => False) wc)
        generalize wc.drew = wd at *
        have hx1 := HDR.out.heap HZ1.out id
        have q0 := heap_cell (j := 0) hx1 rfl
        have q1 := heap_cell (j := 1) hx1 rfl
        have q2 := heap_cell (j := 2) hx1 rfl
        have q3 := heap_cell (j := 3) hx1 rfl
        have q4 := heap_cell (j := 4) hx1 rfl
        have f0 := heap_free (j := 0) hx1
        have f1 := heap_free (j := 1) hx1
        have f2 := heap_free (j := 2) hx1
        have f3 := heap_free (j := 3) hx1
        have f4 := heap_free (j := 4) hx1
        clear hx1
        refine wpAnyH_ready (rs := [2]) (by kernel_rfl) (by simp) ?_
        refine AllReadyH.cons (o := { dst := none, op := _, type := _, pos := _, after := _, guard := _ }) rfl (fun K hK => ?_) AllReadyH.nil
        go_simp
        refine hK.out _ _ (keep10 hHeld (set5 (w := wd) (g + 1 + 1 + 1) (.int .i64 p.lev) (.slice A1 p.kids.length c1) (.slice A2 p.piv.length c2) (.slice A3 p.buf.length c3) (.slice A4 p.prs.length c4)) (by omega) (by omega) (by omega)) (fun hHeld => ?_)
        clear hK K
        try simp only [Act.put, List.setIfInBounds_toArray, List.set_cons_zero, List.set_cons_succ]
        clear q0 q1 q2 q3 q4 f0 f1 f2 f3 f4
        have HY1 := Lib.hid (set5_heap (HDR.out.heap HZ1.out id) (.int .i64 p.lev) (.slice A1 p.kids.length c1) (.slice A2 p.piv.length c2) (.slice A3 p.buf.length c3) (.slice A4 p.prs.length c4))
        have HC1 := Lib.hid (set5 (w := wd) (g + 1 + 1 + 1) (.int .i64 p.lev) (.slice A1 p.kids.length c1) (.slice A2 p.piv.length c2) (.slice A3 p.buf.length c3) (.slice A4 p.prs.length c4))
        generalize (((((wd.setCell ⟨g + 1 + 1 + 1, 0, none⟩ (.int .i64 p.lev)).setCell ⟨g + 1 + 1 + 1, 1, none⟩ (.slice A1 p.kids.length c1)).setCell ⟨g + 1 + 1 + 1, 2, none⟩ (.slice A2 p.piv.length c2)).setCell ⟨g + 1 + 1 + 1, 3, none⟩ (.slice A3 p.buf.length c3)).setCell ⟨g + 1 + 1 + 1, 4, none⟩ (.slice A4 p.prs.length c4)) = wa at *
        have hx2 := HC1.out.heap (HDR.out.heap HZ2.out id) (show ¬ g + 1 + 1 + 1 + 1 = g + 1 + 1 + 1 by omega)
        have q0 := heap_cell (j := 0) hx2 rfl
        have q1 := heap_cell (j := 1) hx2 rfl
        have q2 := heap_cell (j := 2) hx2 rfl
        have q3 := heap_cell (j := 3) hx2 rfl
        have q4 := heap_cell (j := 4) hx2 rfl
        have f0 := heap_free (j := 0) hx2
        have f1 := heap_free (j := 1) hx2
        have f2 := heap_free (j := 2) hx2
        have f3 := heap_free (j := 3) hx2
        have f4 := heap_free (j := 4) hx2
        clear hx2
        refine wpAnyH_ready (rs := [3]) (by kernel_rfl) (by simp) ?_
        refine AllReadyH.cons (o := { dst := none, op := _, type := _, pos := _, after := _, guard := _ }) rfl (fun K hK => ?_) AllReadyH.nil
        go_simp
        refine hK.out _ _ (keep10 hHeld (set5 (w := wa) (g + 1 + 1 + 1 + 1) (.int .i64 k.lev) (.slice B1 k.kids.length d1) (.slice B2 k.piv.length d2) (.slice B3 k.buf.length d3) (.slice B4 k.prs.length d4)) (by omega) (by omega) (by omega)) (fun hHeld => ?_)
        clear hK K
        try simp only [Act.put, List.setIfInBounds_toArray, List.set_cons_zero, List.set_cons_succ]
        clear q0 q1 q2 q3 q4 f0 f1 f2 f3 f4
        have HY2 := Lib.hid (set5_heap (HC1.out.heap (HDR.out.heap HZ2.out id) (show ¬ g + 1 + 1 + 1 + 1 = g + 1 + 1 + 1 by omega)) (.int .i64 k.lev) (.slice B1 k.kids.length d1) (.slice B2 k.piv.length d2) (.slice B3 k.buf.length d3) (.slice B4 k.prs.length d4))
        have HC2 := Lib.hid (set5 (w := wa) (g + 1 + 1 + 1 + 1) (.int .i64 k.lev) (.slice B1 k.kids.length d1) (.slice B2 k.piv.length d2) (.slice B3 k.buf.length d3) (.slice B4 k.prs.length d4))
        generalize (((((wa.setCell ⟨g + 1 + 1 + 1 + 1, 0, none⟩ (.int .i64 k.lev)).setCell ⟨g + 1 + 1 + 1 + 1, 1, none⟩ (.slice B1 k.kids.length d1)).setCell ⟨g + 1 + 1 + 1 + 1, 2, none⟩ (.slice B2 k.piv.length d2)).setCell ⟨g + 1 + 1 + 1 + 1, 3, none⟩ (.slice B3 k.buf.length d3)).setCell ⟨g + 1 + 1 + 1 + 1, 4, none⟩ (.slice B4 k.prs.length d4)) = wb at *
        refine wpAnyH_take (i := 4) (oi := { dst := some 12, op := _, type := _, pos := _, after := _, guard := _ }) (v := ?_) rfl (by kernel_rfl) (by kernel_rfl) (by kernel_rfl) (fun _ _ _ h => h) (Or.inl ⟨by rfl, ?_⟩) (by assumption) ?_
        case refine_2 => intro w hSw; (try dsimp only at hSw); go_simp; all_goals (with_reducible rfl)
        try simp only [Act.put, List.setIfInBounds_toArray, List.set_cons_zero, List.set_cons_succ]
        refine wpAnyH_done (by kernel_rfl) ?_ _
        have HE := Lib.hid hHeld.2.2.2.2.2.2.2.2.2.2
        clear hHeld
        have hy1 := HC2.out.heap HY1.out (show ¬ g + 1 + 1 + 1 = g + 1 + 1 + 1 + 1 by omega)
        have hy2 := HY2.out
        have q0 := heap_cell (j := 0) hy1 rfl
        have q1 := heap_cell (j := 1) hy1 rfl
        have q2 := heap_cell (j := 2) hy1 rfl
        have q3 := heap_cell (j := 3) hy1 rfl
        have q4 := heap_cell (j := 4) hy1 rfl
        have r0 := heap_cell (j := 0) hy2 rfl
        have r1 := heap_cell (j := 1) hy2 rfl
        have r2 := heap_cell (j := 2) hy2 rfl
        have r3 := heap_cell (j := 3) hy2 rfl
        have r4 := heap_cell (j := 4) hy2 rfl
        clear hy1 hy2
        go_wp2
        refine bodyPost_ret (v := .tuple #[.agg #[.int .i64 p.lev, .slice A1 p.kids.length c1, .slice A2 p.piv.length c2, .slice A3 p.buf.length c3, .slice A4 p.prs.length c4], .agg #[.int .i64 k.lev, .slice B1 k.kids.length d1, .slice B2 k.piv.length d2, .slice B3 k.buf.length d3, .slice B4 k.prs.length d4], .int .i64 0]) (by simp [results, Try.results7, go_sem, *]) rfl ?_
        exact ⟨_, _, by rw [HQ.out.2.2]; rfl, by rw [HQ.out.1]; exact fin_made HP.out HDR.out HC1.out HC2.out (by omega) (by omega), by rw [HQ.out.2.1]; exact fin_made HK.out HDR.out HC1.out HC2.out (by omega) (by omega), HE.out⟩
      | false =>
        rw [he] at hv
        have HEA : Hid (¬ earlyP p k at_ most) := Lib.hid (of_decide_eq_false he)
        clear he
        subst hv
        have HSR0 : Hid ((spanR p.piv at_).2 = true) := Lib.hid (HH.out.ok HEA.out)
        obtain ⟨sr, hsr⟩ : ∃ sr, sr = spanR p.piv at_ := ⟨_, rfl⟩
        obtain ⟨⟨lo, hi, top⟩, okb⟩ := sr
        have hok : okb = true := by have := HSR0.out; rw [← hsr] at this; exact this
        subst hok
        have HSR : Hid (spanR p.piv at_ = (⟨lo, hi, top⟩, true)) := Lib.hid hsr.symm
        clear hsr HSR0
        go_upto_region 4 with fail
        go_cut [13, 14] from 44 to 51 (fun v13 v14 wx => ∃ gs : Nat, v13 = .pointer (some ⟨gs, 0, none⟩) ∧ v14 = .bool true ∧ Cells3 wx gs ⟨lo, hi, top⟩ ∧ PW c p k w wx g)
        case first =>
          obtain ⟨-, ⟨A1, c1, A2, c2, A3, c3, A4, c4, hp⟩, -, -, -, hst, hsz⟩ := HPW.out
          have HSZ := Lib.hid hsz
          have h0 := (Chg.drew (S := fun _ => False) wc).cell (heap_cell (j := 2) hp.at_ rfl) id
          have HSP : Hid (∀ w', Still wc w' → Calls Try.prog 16 #[.slice A2 p.piv.length c2, .int .i64 at_, .agg #[.string k0.1, .string k0.1, .bool true]] w' (fun e w'' => e = .returned (.tuple #[.agg #[.string lo.1, .string hi.1, .bool top], .bool true]) ∧ Still w' w'')) := Lib.hid (fun w' hs => by
            have := fspan (hp.s2.1.still hs) at_
            unfold SpanP at this
            rw [HSR.out] at this
            exact this)
          have H0 := Lib.hid (And.intro h0 (Chg.drew (S := fun _ => False) wc))
          clear h0 hp hst hsz
          refine wp_region_held_drew (S := fun w' => w'.cell? ⟨g + 1, 2, none⟩ = some (.slice A2 p.piv.length c2) ∧ Still wc w') (by kernel_rfl) H0.out (fun hHeld => ?_)
          have HDR := Lib.hid (Chg.drew (S := fun _ => False) wc)
          generalize wc.drew = wd at *
          refine wpAnyH_take (i := 0) (oi := { dst := some 45, op := _, type := _, pos := _, after := _, guard := _ }) (v := ?_) rfl (by kernel_rfl) (by kernel_rfl) (by kernel_rfl) (fun _ _ _ h => h) (Or.inl ⟨by rfl, ?_⟩) (by assumption) ?_
          case refine_2 => intro w hSw; (try dsimp only at hSw); go_simp; all_goals (with_reducible rfl)
          try simp only [Act.put, List.setIfInBounds_toArray, List.set_cons_zero, List.set_cons_succ]
          refine wpAnyH_take (i := 1) (oi := { dst := some 46, op := _, type := _, pos := _, after := _, guard := _ }) (v := ?_) rfl (by kernel_rfl) (by kernel_rfl) (by kernel_rfl) (fun _ _ _ h => h) (Or.inl ⟨by rfl, ?_⟩) (by assumption) ?_
          case refine_2 => intro w hSw; (try dsimp only at hSw); go_simp; all_goals (with_reducible rfl)
          try simp only [Act.put, List.setIfInBounds_toArray, List.set_cons_zero, List.set_cons_succ]
          refine wpAnyH_take (i := 2) (oi := { dst := some 47, op := _, type := _, pos := _, after := _, guard := _ }) (v := ?_) rfl (by kernel_rfl) (by kernel_rfl) (by kernel_rfl) (fun _ _ _ h => h) (Or.inl ⟨by rfl, ?_⟩) (by assumption) ?_
          case refine_2 => intro w hSw; (try dsimp only at hSw); go_simp; all_goals (with_reducible rfl)
          try simp only [Act.put, List.setIfInBounds_toArray, List.set_cons_zero, List.set_cons_succ]
          refine wpAnyH_ready (rs := [3, 8]) (by kernel_rfl) (by simp) ?_
          refine AllReadyH.cons (o := { dst := some 48, op := _, type := _, pos := _, after := _, guard := _ }) rfl (fun K hK => ?_) (AllReadyH.cons (o := { dst := some 13, op := _, type := _, pos := _, after := _, guard := _ }) rfl (fun K hK => ?_) AllReadyH.nil)
          · go_simp
            refine (lall _).mono ?_
            rintro e wl ⟨rfl, hs⟩
            go_wp2_with fail
            have HSl := Lib.hid hs
            refine hK.out _ _ ⟨hs.cell hHeld.1 id, hHeld.2.trans hs⟩ (fun hHeld => ?_)
            clear hK K
            try simp only [Act.put, List.setIfInBounds_toArray, List.set_cons_zero, List.set_cons_succ]
            clear hs
            refine wpAnyH_ready (rs := [4, 8]) (by kernel_rfl) (by simp) ?_
            refine AllReadyH.cons (o := { dst := some 49, op := _, type := _, pos := _, after := _, guard := _ }) rfl (fun K hK => ?_) (AllReadyH.cons (o := { dst := some 13, op := _, type := _, pos := _, after := _, guard := _ }) rfl (fun K hK => ?_) AllReadyH.nil)
            · go_simp
              refine (HSP.out _ hHeld.2).mono ?_
              rintro e wf ⟨rfl, hs⟩
              go_wp2_with fail
              have HSf := Lib.hid hs
              refine hK.out _ _ ⟨hs.cell hHeld.1 id, hHeld.2.trans hs⟩ (fun hHeld => ?_)
              clear hK K
              try simp only [Act.put, List.setIfInBounds_toArray, List.set_cons_zero, List.set_cons_succ]
              clear hs
              refine wpAnyH_take (i := 5) (oi := { dst := some 44, op := _, type := _, pos := _, after := _, guard := _ }) (v := ?_) rfl (by kernel_rfl) (by kernel_rfl) (by kernel_rfl) (fun _ _ _ h => h) (Or.inl ⟨by rfl, ?_⟩) (by assumption) ?_
              case refine_2 => intro w hSw; (try dsimp only at hSw); go_simp; all_goals (with_reducible rfl)
              try simp only [Act.put, List.setIfInBounds_toArray, List.set_cons_zero, List.set_cons_succ]
              refine wpAnyH_take (i := 6) (oi := { dst := some 50, op := _, type := _, pos := _, after := _, guard := _ }) (v := ?_) rfl (by kernel_rfl) (by kernel_rfl) (by kernel_rfl) (fun _ _ _ h => h) (Or.inl ⟨by rfl, ?_⟩) (by assumption) ?_
              case refine_2 => intro w hSw; (try dsimp only at hSw); go_simp; all_goals (with_reducible rfl)
              try simp only [Act.put, List.setIfInBounds_toArray, List.set_cons_zero, List.set_cons_succ]
              refine wpAnyH_take (i := 7) (oi := { dst := some 51, op := _, type := _, pos := _, after := _, guard := _ }) (v := ?_) rfl (by kernel_rfl) (by kernel_rfl) (by kernel_rfl) (fun _ _ _ h => h) (Or.inl ⟨by rfl, ?_⟩) (by assumption) ?_
              case refine_2 => intro w hSw; (try dsimp only at hSw); go_simp; all_goals (with_reducible rfl)
              try simp only [Act.put, List.setIfInBounds_toArray, List.set_cons_zero, List.set_cons_succ]
              refine wpAnyH_ready (rs := [8]) (by kernel_rfl) (by simp) ?_
              refine AllReadyH.cons (o := { dst := some 13, op := _, type := _, pos := _, after := _, guard := _ }) rfl (fun K hK => ?_) AllReadyH.nil
              go_simp
              refine hK.out _ _ ⟨(Chg.alloc (S := fun _ => False) _ _).cell hHeld.1 id, hHeld.2.allocs _⟩ (fun hHeld => ?_)
              clear hK K
              try simp only [Act.put, List.setIfInBounds_toArray, List.set_cons_zero, List.set_cons_succ]
              have HGA := Lib.hid (heap_alloc_new wf (.cells #[.string ⟨#[]⟩, .string ⟨#[]⟩, .bool false] 37))
              have HSa := Lib.hid (Chg.alloc (S := fun _ => False) wf (.cells #[.string ⟨#[]⟩, .string ⟨#[]⟩, .bool false] 37))
              generalize wf.alloc (.cells #[.string ⟨#[]⟩, .string ⟨#[]⟩, .bool false] 37) = wa at *
              have HGC := Lib.hid (show wc.heap.size ≤ wf.heap.size from (HDR.out.trans (HSl.out.trans HSf.out)).size)
              have HGW := Lib.hid (Nat.le_trans HSZ.out (show wc.heap.size ≤ wf.heap.size from (HDR.out.trans (HSl.out.trans HSf.out)).size))
              generalize wf.heap.size = gs at *
              have hx := HGA.out
              have q0 := heap_cell (j := 0) hx rfl
              have q1 := heap_cell (j := 1) hx rfl
              have q2 := heap_cell (j := 2) hx rfl
              have f0 := heap_free (j := 0) hx
              have f1 := heap_free (j := 1) hx
              have f2 := heap_free (j := 2) hx
              have HX := Lib.hid hx
              clear hx
              refine wpAnyH_ready (rs := [9]) (by kernel_rfl) (by simp) ?_
              refine AllReadyH.cons (o := { dst := none, op := _, type := _, pos := _, after := _, guard := _ }) rfl (fun K hK => ?_) AllReadyH.nil
              go_simp
              have HC3 := Lib.hid (set3c wa gs (.string lo.1) (.string hi.1) (.bool top))
              refine hK.out _ _ ⟨HC3.out.cell hHeld.1 (show ¬ g + 1 = gs by have := HGW.out; omega), hHeld.2.then HC3.out (fun i hi => .inr (by rw [show i = gs from hi]; exact HGC.out))⟩ (fun hHeld => ?_)
              clear hK K q0 q1 q2 f0 f1 f2
              try simp only [Act.put, List.setIfInBounds_toArray, List.set_cons_zero, List.set_cons_succ]
              have HY := Lib.hid (set3_heap HX.out (.string lo.1) (.string hi.1) (.bool top))
              generalize ((wa.setCell ⟨gs, 0, none⟩ (.string lo.1)).setCell ⟨gs, 1, none⟩ (.string hi.1)).setCell ⟨gs, 2, none⟩ (.bool top) = wz at *
              refine wpAnyH_take (i := 10) (oi := { dst := some 14, op := _, type := _, pos := _, after := _, guard := _ }) (v := ?_) rfl (by kernel_rfl) (by kernel_rfl) (by kernel_rfl) (fun _ _ _ h => h) (Or.inl ⟨by rfl, ?_⟩) (by assumption) ?_
              case refine_2 => intro w hSw; (try dsimp only at hSw); go_simp; all_goals (with_reducible rfl)
              try simp only [Act.put, List.setIfInBounds_toArray, List.set_cons_zero, List.set_cons_succ]
              refine wpAnyH_done (by kernel_rfl) ?_ _
              clear hHeld
              go_wp2
              go_meet
              exact ⟨gs, rfl, rfl, ⟨heap_cell HY.out rfl, heap_cell HY.out rfl, heap_cell HY.out rfl⟩, HPW.out.move ((HDR.out.trans (HSl.out.trans (HSf.out.trans HSa.out))).then HC3.out (fun i hi => .inr (by rw [show i = gs from hi]; exact HGC.out)))⟩
            · go_simp
              refine hK.out _ _ ⟨(Chg.alloc (S := fun _ => False) _ _).cell hHeld.1 id, hHeld.2.allocs _⟩ (fun hHeld => ?_)
              clear hK K
              try simp only [Act.put, List.setIfInBounds_toArray, List.set_cons_zero, List.set_cons_succ]
              have HGA := Lib.hid (heap_alloc_new wl (.cells #[.string ⟨#[]⟩, .string ⟨#[]⟩, .bool false] 37))
              have HSa := Lib.hid (Chg.alloc (S := fun _ => False) wl (.cells #[.string ⟨#[]⟩, .string ⟨#[]⟩, .bool false] 37))
              generalize wl.alloc (.cells #[.string ⟨#[]⟩, .string ⟨#[]⟩, .bool false] 37) = wa at *
              have HGC := Lib.hid (show wc.heap.size ≤ wl.heap.size from (HDR.out.trans HSl.out).size)
              have HGW := Lib.hid (Nat.le_trans HSZ.out (show wc.heap.size ≤ wl.heap.size from (HDR.out.trans HSl.out).size))
              generalize wl.heap.size = gs at *
              refine wpAnyH_ready (rs := [4]) (by kernel_rfl) (by simp) ?_
              refine AllReadyH.cons (o := { dst := some 49, op := _, type := _, pos := _, after := _, guard := _ }) rfl (fun K hK => ?_) AllReadyH.nil
              go_simp
              refine (HSP.out _ hHeld.2).mono ?_
              rintro e wf ⟨rfl, hs⟩
              go_wp2_with fail
              have HSf := Lib.hid hs
              refine hK.out _ _ ⟨hs.cell hHeld.1 id, hHeld.2.trans hs⟩ (fun hHeld => ?_)
              clear hK K
              try simp only [Act.put, List.setIfInBounds_toArray, List.set_cons_zero, List.set_cons_succ]
              clear hs
              refine wpAnyH_take (i := 5) (oi := { dst := some 44, op := _, type := _, pos := _, after := _, guard := _ }) (v := ?_) rfl (by kernel_rfl) (by kernel_rfl) (by kernel_rfl) (fun _ _ _ h => h) (Or.inl ⟨by rfl, ?_⟩) (by assumption) ?_
              case refine_2 => intro w hSw; (try dsimp only at hSw); go_simp; all_goals (with_reducible rfl)
              try simp only [Act.put, List.setIfInBounds_toArray, List.set_cons_zero, List.set_cons_succ]
              refine wpAnyH_take (i := 6) (oi := { dst := some 50, op := _, type := _, pos := _, after := _, guard := _ }) (v := ?_) rfl (by kernel_rfl) (by kernel_rfl) (by kernel_rfl) (fun _ _ _ h => h) (Or.inl ⟨by rfl, ?_⟩) (by assumption) ?_
              case refine_2 => intro w hSw; (try dsimp only at hSw); go_simp; all_goals (with_reducible rfl)
              try simp only [Act.put, List.setIfInBounds_toArray, List.set_cons_zero, List.set_cons_succ]
              refine wpAnyH_take (i := 7) (oi := { dst := some 51, op := _, type := _, pos := _, after := _, guard := _ }) (v := ?_) rfl (by kernel_rfl) (by kernel_rfl) (by kernel_rfl) (fun _ _ _ h => h) (Or.inl ⟨by rfl, ?_⟩) (by assumption) ?_
              case refine_2 => intro w hSw; (try dsimp only at hSw); go_simp; all_goals (with_reducible rfl)
              try simp only [Act.put, List.setIfInBounds_toArray, List.set_cons_zero, List.set_cons_succ]
              have hx := HSf.out.heap HGA.out id
              have q0 := heap_cell (j := 0) hx rfl
              have q1 := heap_cell (j := 1) hx rfl
              have q2 := heap_cell (j := 2) hx rfl
              have f0 := heap_free (j := 0) hx
              have f1 := heap_free (j := 1) hx
              have f2 := heap_free (j := 2) hx
              have HX := Lib.hid hx
              clear hx
              refine wpAnyH_ready (rs := [9]) (by kernel_rfl) (by simp) ?_
              refine AllReadyH.cons (o := { dst := none, op := _, type := _, pos := _, after := _, guard := _ }) rfl (fun K hK => ?_) AllReadyH.nil
              go_simp
              have HC3 := Lib.hid (set3c wf gs (.string lo.1) (.string hi.1) (.bool top))
              refine hK.out _ _ ⟨HC3.out.cell hHeld.1 (show ¬ g + 1 = gs by have := HGW.out; omega), hHeld.2.then HC3.out (fun i hi => .inr (by rw [show i = gs from hi]; exact HGC.out))⟩ (fun hHeld => ?_)
              clear hK K q0 q1 q2 f0 f1 f2
              try simp only [Act.put, List.setIfInBounds_toArray, List.set_cons_zero, List.set_cons_succ]
              have HY := Lib.hid (set3_heap HX.out (.string lo.1) (.string hi.1) (.bool top))
              generalize ((wf.setCell ⟨gs, 0, none⟩ (.string lo.1)).setCell ⟨gs, 1, none⟩ (.string hi.1)).setCell ⟨gs, 2, none⟩ (.bool top) = wz at *
              refine wpAnyH_take (i := 10) (oi := { dst := some 14, op := _, type := _, pos := _, after := _, guard := _ }) (v := ?_) rfl (by kernel_rfl) (by kernel_rfl) (by kernel_rfl) (fun _ _ _ h => h) (Or.inl ⟨by rfl, ?_⟩) (by assumption) ?_
              case refine_2 => intro w hSw; (try dsimp only at hSw); go_simp; all_goals (with_reducible rfl)
              try simp only [Act.put, List.setIfInBounds_toArray, List.set_cons_zero, List.set_cons_succ]
              refine wpAnyH_done (by kernel_rfl) ?_ _
              clear hHeld
              go_wp2
              go_meet
              exact ⟨gs, rfl, rfl, ⟨heap_cell HY.out rfl, heap_cell HY.out rfl, heap_cell HY.out rfl⟩, HPW.out.move ((HDR.out.trans (HSl.out.trans (HSa.out.trans HSf.out))).then HC3.out (fun i hi => .inr (by rw [show i = gs from hi]; exact HGC.out)))⟩
          · go_simp
            refine hK.out _ _ ⟨(Chg.alloc (S := fun _ => False) _ _).cell hHeld.1 id, hHeld.2.allocs _⟩ (fun hHeld => ?_)
            clear hK K
            try simp only [Act.put, List.setIfInBounds_toArray, List.set_cons_zero, List.set_cons_succ]
            have HGA := Lib.hid (heap_alloc_new wd (.cells #[.string ⟨#[]⟩, .string ⟨#[]⟩, .bool false] 37))
            have HSa := Lib.hid (Chg.alloc (S := fun _ => False) wd (.cells #[.string ⟨#[]⟩, .string ⟨#[]⟩, .bool false] 37))
            generalize wd.alloc (.cells #[.string ⟨#[]⟩, .string ⟨#[]⟩, .bool false] 37) = wa at *
            have HGC := Lib.hid (show wc.heap.size ≤ wd.heap.size from HDR.out.size)
            have HGW := Lib.hid (Nat.le_trans HSZ.out (show wc.heap.size ≤ wd.heap.size from HDR.out.size))
            generalize wd.heap.size = gs at *
            refine wpAnyH_ready (rs := [3]) (by kernel_rfl) (by simp) ?_
            refine AllReadyH.cons (o := { dst := some 48, op := _, type := _, pos := _, after := _, guard := _ }) rfl (fun K hK => ?_) AllReadyH.nil
            go_simp
            refine (lall _).mono ?_
            rintro e wl ⟨rfl, hs⟩
            go_wp2_with fail
            have HSl := Lib.hid hs
            refine hK.out _ _ ⟨hs.cell hHeld.1 id, hHeld.2.trans hs⟩ (fun hHeld => ?_)
            clear hK K
            try simp only [Act.put, List.setIfInBounds_toArray, List.set_cons_zero, List.set_cons_succ]
            clear hs
            refine wpAnyH_ready (rs := [4]) (by kernel_rfl) (by simp) ?_
            refine AllReadyH.cons (o := { dst := some 49, op := _, type := _, pos := _, after := _, guard := _ }) rfl (fun K hK => ?_) AllReadyH.nil
            go_simp
            refine (HSP.out _ hHeld.2).mono ?_
            rintro e wf ⟨rfl, hs⟩
            go_wp2_with fail
            have HSf := Lib.hid hs
            refine hK.out _ _ ⟨hs.cell hHeld.1 id, hHeld.2.trans hs⟩ (fun hHeld => ?_)
            clear hK K
            try simp only [Act.put, List.setIfInBounds_toArray, List.set_cons_zero, List.set_cons_succ]
            clear hs
            refine wpAnyH_take (i := 5) (oi := { dst := some 44, op := _, type := _, pos := _, after := _, guard := _ }) (v := ?_) rfl (by kernel_rfl) (by kernel_rfl) (by kernel_rfl) (fun _ _ _ h => h) (Or.inl ⟨by rfl, ?_⟩) (by assumption) ?_
            case refine_2 => intro w hSw; (try dsimp only at hSw); go_simp; all_goals (with_reducible rfl)
            try simp only [Act.put, List.setIfInBounds_toArray, List.set_cons_zero, List.set_cons_succ]
            refine wpAnyH_take (i := 6) (oi := { dst := some 50, op := _, type := _, pos := _, after := _, guard := _ }) (v := ?_) rfl (by kernel_rfl) (by kernel_rfl) (by kernel_rfl) (fun _ _ _ h => h) (Or.inl ⟨by rfl, ?_⟩) (by assumption) ?_
            case refine_2 => intro w hSw; (try dsimp only at hSw); go_simp; all_goals (with_reducible rfl)
            try simp only [Act.put, List.setIfInBounds_toArray, List.set_cons_zero, List.set_cons_succ]
            refine wpAnyH_take (i := 7) (oi := { dst := some 51, op := _, type := _, pos := _, after := _, guard := _ }) (v := ?_) rfl (by kernel_rfl) (by kernel_rfl) (by kernel_rfl) (fun _ _ _ h => h) (Or.inl ⟨by rfl, ?_⟩) (by assumption) ?_
            case refine_2 => intro w hSw; (try dsimp only at hSw); go_simp; all_goals (with_reducible rfl)
            try simp only [Act.put, List.setIfInBounds_toArray, List.set_cons_zero, List.set_cons_succ]
            have hx := HSf.out.heap (HSl.out.heap HGA.out id) id
            have q0 := heap_cell (j := 0) hx rfl
            have q1 := heap_cell (j := 1) hx rfl
            have q2 := heap_cell (j := 2) hx rfl
            have f0 := heap_free (j := 0) hx
            have f1 := heap_free (j := 1) hx
            have f2 := heap_free (j := 2) hx
            have HX := Lib.hid hx
            clear hx
            refine wpAnyH_ready (rs := [9]) (by kernel_rfl) (by simp) ?_
            refine AllReadyH.cons (o := { dst := none, op := _, type := _, pos := _, after := _, guard := _ }) rfl (fun K hK => ?_) AllReadyH.nil
            go_simp
            have HC3 := Lib.hid (set3c wf gs (.string lo.1) (.string hi.1) (.bool top))
            refine hK.out _ _ ⟨HC3.out.cell hHeld.1 (show ¬ g + 1 = gs by have := HGW.out; omega), hHeld.2.then HC3.out (fun i hi => .inr (by rw [show i = gs from hi]; exact HGC.out))⟩ (fun hHeld => ?_)
            clear hK K q0 q1 q2 f0 f1 f2
            try simp only [Act.put, List.setIfInBounds_toArray, List.set_cons_zero, List.set_cons_succ]
            have HY := Lib.hid (set3_heap HX.out (.string lo.1) (.string hi.1) (.bool top))
            generalize ((wf.setCell ⟨gs, 0, none⟩ (.string lo.1)).setCell ⟨gs, 1, none⟩ (.string hi.1)).setCell ⟨gs, 2, none⟩ (.bool top) = wz at *
            refine wpAnyH_take (i := 10) (oi := { dst := some 14, op := _, type := _, pos := _, after := _, guard := _ }) (v := ?_) rfl (by kernel_rfl) (by kernel_rfl) (by kernel_rfl) (fun _ _ _ h => h) (Or.inl ⟨by rfl, ?_⟩) (by assumption) ?_
            case refine_2 => intro w hSw; (try dsimp only at hSw); go_simp; all_goals (with_reducible rfl)
            try simp only [Act.put, List.setIfInBounds_toArray, List.set_cons_zero, List.set_cons_succ]
            refine wpAnyH_done (by kernel_rfl) ?_ _
            clear hHeld
            go_wp2
            go_meet
            exact ⟨gs, rfl, rfl, ⟨heap_cell HY.out rfl, heap_cell HY.out rfl, heap_cell HY.out rfl⟩, HPW.out.move ((HDR.out.trans (HSa.out.trans (HSl.out.trans HSf.out))).then HC3.out (fun i hi => .inr (by rw [show i = gs from hi]; exact HGC.out)))⟩
        clear HPW
        case rest =>
          obtain ⟨gs, hv13, hv14, hc3, hpw⟩ := hcut
          subst hv13 hv14
          have HPW := Lib.hid hpw
          have HC3 := Lib.hid hc3
          clear hpw hc3
          obtain ⟨klev, kkids, kpiv, kbuf, kprs⟩ := k
          have hl0 : klev = 0 ∨ 0 < klev := by have := HH.out.lk.1; simp only at this; omega
          clear hg0 HG HS0 KP KK
          rcases hl0 with hl | hl
          · subst hl
            have HEA := HEA
            have hmm := HH.out.mm
            have hcb := HH.out.cb
            have hbb : kbuf.length ≤ 400000 := HH.out.bb
            obtain ⟨hc8, ⟨A1, c1, A2, c2, A3, c3, A4, c4, hp⟩, ⟨B1, d1, B2, d2, B3, d3, B4, d4, hk⟩, -, -, hst, hsz⟩ := HPW.out
            have p3' := heap_cell (j := 3) hp.at_ rfl
            have k0' : wc.cell? ⟨g + 1 + 1, 0, none⟩ = some (.int .i64 0) := heap_cell (j := 0) hk.at_ rfl
            have k3' : wc.cell? ⟨g + 1 + 1, 3, none⟩ = some (.slice B3 kbuf.length d3) := heap_cell (j := 3) hk.at_ rfl
            have q4' := hc8.2.2.2.2.1
            obtain ⟨s0, s1, s2⟩ := HC3.out
            have HSZ := Lib.hid hsz
            have HT : Hid (Calls Try.prog 18 #[.slice A3 p.buf.length c3, .agg #[.string lo.1, .string hi.1, .bool top], .int .i64 most] wc (TakeP ⟨lo, hi, top⟩ p.buf most wc)) := Lib.hid (take18 ⟨lo, hi, top⟩ most (by omega) (by omega) hp.s3.1 HH.out.rp HH.out.np.buf)
            have htl : (taken ⟨lo, hi, top⟩ p.buf most).length ≤ 400000 := Nat.le_trans (taken_len _ _ _) HH.out.bp
            clear hc8 hp hk hst hsz
            unfold TakeP at HT
            obtain ⟨tk, htk⟩ : ∃ tk, tk = taken ⟨lo, hi, top⟩ p.buf most := ⟨_, rfl⟩
            obtain ⟨rs, hrs⟩ : ∃ rs, rs = restOf ⟨lo, hi, top⟩ p.buf most := ⟨_, rfl⟩
            rw [← htk, ← hrs] at HT
            rw [← htk] at htl
            have HTK := Lib.hid (And.intro htk hrs)
            clear htk hrs
            go_wp2_with fail
            refine HT.out.mono ?_
            rintro e w2 ⟨v1, v2, rfl, h1, h2, hs⟩
            obtain ⟨T, ct, rfl, qt1, qt2⟩ := h1.1.form
            obtain ⟨R, cr, rfl, -, -⟩ := h2.1.form
            have H1 := Lib.hid (h1.outO HSZ.out)
            have H2 := Lib.hid (h2.outO HSZ.out)
            have HPW2 := Lib.hid (HPW.out.move hs)
            clear h1 h2 hs p3' k0' k3' q4' s0 s1 s2 HT HC3 HPW HSZ
            have HPW3 := Lib.hid (HPW2.out.setP hg H2.out)
            have hch : Chg (fun i => i = g + 1) w2 (w2.setCell ⟨g + 1, 3, none⟩ (.slice R rs.length cr)) := Chg.setCell w2 _ _ rfl
            have H13 := Lib.hid (H1.out.far hch (by omega))
            clear hch
            obtain ⟨-, ⟨A1, c1, A2, c2, A3, c3, A4, c4, hp⟩, -, -, -, -, -⟩ := HPW2.out
            have p3' := heap_cell (j := 3) hp.at_ rfl
            have f3' := heap_free (j := 3) hp.at_
            obtain ⟨-, -, ⟨B1, d1, B2, d2, B3, d3, B4, d4, hk⟩, -, -, -, hsz⟩ := HPW3.out
            have HSZ := Lib.hid hsz
            have k0' : (w2.setCell ⟨g + 1, 3, none⟩ (.slice R rs.length cr)).cell? ⟨g + 1 + 1, 0, none⟩ = some (.int .i64 0) := heap_cell (j := 0) hk.at_ rfl
            have k3' : (w2.setCell ⟨g + 1, 3, none⟩ (.slice R rs.length cr)).cell? ⟨g + 1 + 1, 3, none⟩ = some (.slice B3 kbuf.length d3) := heap_cell (j := 3) hk.at_ rfl
            have k4' : (w2.setCell ⟨g + 1, 3, none⟩ (.slice R rs.length cr)).cell? ⟨g + 1 + 1, 4, none⟩ = some (.slice B4 kprs.length d4) := heap_cell (j := 4) hk.at_ rfl
            have HC : Hid (Calls Try.prog 19 #[.slice B4 kprs.length d4, .slice T tk.length ct] (w2.setCell ⟨g + 1, 3, none⟩ (.slice R rs.length cr)) (PairsP (appL kprs tk) (w2.setCell ⟨g + 1, 3, none⟩ (.slice R rs.length cr)))) := Lib.hid (apply19 hk.s4.1 H13.out.1 HH.out.rk HH.out.bk htl)
            obtain ⟨r, hr⟩ : ∃ r, r = appL kprs tk := ⟨_, rfl⟩
            rw [← hr] at HC
            have HR := Lib.hid hr
            clear hr hp hk hsz
            generalize hw3 : w2.setCell ⟨g + 1, 3, none⟩ (.slice R rs.length cr) = w3 at *
            have HW3 := Lib.hid hw3
            clear hw3
            go_upto_region 11 with fail
            rw [HW3.out]
            go_wp2_with fail
            refine HC.out.mono ?_
            rintro e w4 ⟨v5, rfl, h5, hs⟩
            obtain ⟨X, cx, rfl, -, -⟩ := h5.1.form
            have H5 := Lib.hid (h5.outO HSZ.out)
            have HPW4 := Lib.hid (HPW3.out.move hs)
            have H14 := Lib.hid (H13.out.still hs)
            clear h5 hs p3' f3' k0' k3' k4' HC HPW2 HPW3 HSZ
            have HPW5 := Lib.hid (HPW4.out.setKp hg H5.out)
            obtain ⟨-, -, ⟨B1, d1, B2, d2, B3, d3, B4, d4, hk⟩, -, -, -, -⟩ := HPW4.out
            have k4' := heap_cell (j := 4) hk.at_ rfl
            have f4' := heap_free (j := 4) hk.at_
            clear hk
            generalize hw5 : w4.setCell ⟨g + 1 + 1, 4, none⟩ (.slice X r.length cx) = w5 at *
            have HW5 := Lib.hid hw5
            clear hw5
            go_upto_region 14 with fail
            rw [HW5.out]
            clear k4' f4' HW5 HW3 HPW4 H14 H13 H5 H1 H2
            obtain ⟨-, ⟨A1, c1, A2, c2, A3, c3, A4, c4, hp⟩, ⟨B1, d1, B2, d2, B3, d3, B4, d4, hk⟩, z1, z2, hst, hsz⟩ := HPW5.out
            have HP := Lib.hid hp
            have HK := Lib.hid hk
            have HZ1 := Lib.hid z1
            have HZ2 := Lib.hid z2
            have HSZ := Lib.hid hsz
            have hpD := hp.at_
            have hkD := hk.at_
            unfold ZeroN at z1 z2 HZ1 HZ2
            have hD := Chg.drew (S := fun _ => False) w5
            have hp' := hD.heap hpD id
            have hk' := hD.heap hkD id
            have H0 := Lib.hid (And.intro (heap_cell (j := 0) hp' rfl) (And.intro (heap_cell (j := 1) hp' rfl) (And.intro (heap_cell (j := 2) hp' rfl) (And.intro (heap_cell (j := 3) hp' rfl) (And.intro (heap_cell (j := 4) hp' rfl) (And.intro (heap_cell (j := 0) hk' rfl) (And.intro (heap_cell (j := 1) hk' rfl) (And.intro (heap_cell (j := 2) hk' rfl) (And.intro (heap_cell (j := 3) hk' rfl) (And.intro (heap_cell (j := 4) hk' rfl) (hst.trans hD)))))))))))
            clear hpD hkD hD hp' hk' hp hk z1 z2 hst hsz
            refine wp_region_held_drew (S := fun w' => w'.cell? ⟨g + 1, 0, none⟩ = some (.int .i64 p.lev) ∧ w'.cell? ⟨g + 1, 1, none⟩ = some (.slice A1 p.kids.length c1) ∧ w'.cell? ⟨g + 1, 2, none⟩ = some (.slice A2 p.piv.length c2) ∧ w'.cell? ⟨g + 1, 3, none⟩ = some (.slice A3 rs.length c3) ∧ w'.cell? ⟨g + 1, 4, none⟩ = some (.slice A4 p.prs.length c4) ∧ w'.cell? ⟨g + 1 + 1, 0, none⟩ = some (.int .i64 0) ∧ w'.cell? ⟨g + 1 + 1, 1, none⟩ = some (.slice B1 kkids.length d1) ∧ w'.cell? ⟨g + 1 + 1, 2, none⟩ = some (.slice B2 kpiv.length d2) ∧ w'.cell? ⟨g + 1 + 1, 3, none⟩ = some (.slice B3 kbuf.length d3) ∧ w'.cell? ⟨g + 1 + 1, 4, none⟩ = some (.slice B4 r.length d4) ∧ Still w w') (by kernel_rfl) H0.out (fun hHeld => ?_)
            refine wpAnyH_take (i := 0) (oi := { dst := some 90, op := _, type := _, pos := _, after := _, guard := _ }) (v := ?_) rfl (by kernel_rfl) (by kernel_rfl) (by kernel_rfl) (fun _ _ _ h => h) (Or.inl ⟨by rfl, ?_⟩) (by assumption) ?_
            case refine_2 => intro w hSw; (try dsimp only at hSw); go_simp; all_goals (with_reducible rfl)
            try simp only [Act.put, List.setIfInBounds_toArray, List.set_cons_zero, List.set_cons_succ]
            refine wpAnyH_take (i := 1) (oi := { dst := some 91, op := _, type := _, pos := _, after := _, guard := _ }) (v := ?_) rfl (by kernel_rfl) (by kernel_rfl) (by kernel_rfl) (fun _ _ _ h => h) (Or.inl ⟨by rfl, ?_⟩) (by assumption) ?_
            case refine_2 => intro w hSw; (try dsimp only at hSw); go_simp; all_goals (with_reducible rfl)
            try simp only [Act.put, List.setIfInBounds_toArray, List.set_cons_zero, List.set_cons_succ]
            refine wpAnyH_take (i := 2) (oi := { dst := some 92, op := _, type := _, pos := _, after := _, guard := _ }) (v := ?_) rfl (by kernel_rfl) (by kernel_rfl) (by kernel_rfl) (fun _ _ _ h => h) (Or.inl ⟨by rfl, ?_⟩) (by assumption) ?_
            case refine_2 => intro w hSw; (try dsimp only at hSw); go_simp; all_goals (with_reducible rfl)
            try simp only [Act.put, List.setIfInBounds_toArray, List.set_cons_zero, List.set_cons_succ]
            refine wpAnyH_take (i := 3) (oi := { dst := some 93, op := _, type := _, pos := _, after := _, guard := _ }) (v := ?_) rfl (by kernel_rfl) (by kernel_rfl) (by kernel_rfl) (fun _ _ _ h => h) (Or.inl ⟨by rfl, ?_⟩) (by assumption) ?_
            case refine_2 => intro w hSw; (try dsimp only at hSw); go_simp; all_goals (with_reducible rfl)
            try simp only [Act.put, List.setIfInBounds_toArray, List.set_cons_zero, List.set_cons_succ]
            have HDR := Lib.hid (Chg.drew (S := fun _ => False) w5)
            generalize w5.drew = wd at *
            have hx1 := HDR.out.heap HZ1.out id
            have q0 := heap_cell (j := 0) hx1 rfl
            have q1 := heap_cell (j := 1) hx1 rfl
            have q2 := heap_cell (j := 2) hx1 rfl
            have q3 := heap_cell (j := 3) hx1 rfl
            have q4 := heap_cell (j := 4) hx1 rfl
            have f0 := heap_free (j := 0) hx1
            have f1 := heap_free (j := 1) hx1
            have f2 := heap_free (j := 2) hx1
            have f3 := heap_free (j := 3) hx1
            have f4 := heap_free (j := 4) hx1
            clear hx1
            refine wpAnyH_ready (rs := [4]) (by kernel_rfl) (by simp) ?_
            refine AllReadyH.cons (o := { dst := none, op := _, type := _, pos := _, after := _, guard := _ }) rfl (fun K hK => ?_) AllReadyH.nil
            go_simp
            refine hK.out _ _ (keep10 hHeld (set5 (w := wd) (g + 1 + 1 + 1) (.int .i64 p.lev) (.slice A1 p.kids.length c1) (.slice A2 p.piv.length c2) (.slice A3 rs.length c3) (.slice A4 p.prs.length c4)) (by omega) (by omega) (by omega)) (fun hHeld => ?_)
            clear hK K
            try simp only [Act.put, List.setIfInBounds_toArray, List.set_cons_zero, List.set_cons_succ]
            clear q0 q1 q2 q3 q4 f0 f1 f2 f3 f4
            have HY1 := Lib.hid (set5_heap (HDR.out.heap HZ1.out id) (.int .i64 p.lev) (.slice A1 p.kids.length c1) (.slice A2 p.piv.length c2) (.slice A3 rs.length c3) (.slice A4 p.prs.length c4))
            have HC1 := Lib.hid (set5 (w := wd) (g + 1 + 1 + 1) (.int .i64 p.lev) (.slice A1 p.kids.length c1) (.slice A2 p.piv.length c2) (.slice A3 rs.length c3) (.slice A4 p.prs.length c4))
            generalize (((((wd.setCell ⟨g + 1 + 1 + 1, 0, none⟩ (.int .i64 p.lev)).setCell ⟨g + 1 + 1 + 1, 1, none⟩ (.slice A1 p.kids.length c1)).setCell ⟨g + 1 + 1 + 1, 2, none⟩ (.slice A2 p.piv.length c2)).setCell ⟨g + 1 + 1 + 1, 3, none⟩ (.slice A3 rs.length c3)).setCell ⟨g + 1 + 1 + 1, 4, none⟩ (.slice A4 p.prs.length c4)) = wa at *
            have hx2 := HC1.out.heap (HDR.out.heap HZ2.out id) (show ¬ g + 1 + 1 + 1 + 1 = g + 1 + 1 + 1 by omega)
            have q0 := heap_cell (j := 0) hx2 rfl
            have q1 := heap_cell (j := 1) hx2 rfl
            have q2 := heap_cell (j := 2) hx2 rfl
            have q3 := heap_cell (j := 3) hx2 rfl
            have q4 := heap_cell (j := 4) hx2 rfl
            have f0 := heap_free (j := 0) hx2
            have f1 := heap_free (j := 1) hx2
            have f2 := heap_free (j := 2) hx2
            have f3 := heap_free (j := 3) hx2
            have f4 := heap_free (j := 4) hx2
            clear hx2
            refine wpAnyH_ready (rs := [5]) (by kernel_rfl) (by simp) ?_
            refine AllReadyH.cons (o := { dst := none, op := _, type := _, pos := _, after := _, guard := _ }) rfl (fun K hK => ?_) AllReadyH.nil
            go_simp
            refine hK.out _ _ (keep10 hHeld (set5 (w := wa) (g + 1 + 1 + 1 + 1) (.int .i64 0) (.slice B1 kkids.length d1) (.slice B2 kpiv.length d2) (.slice B3 kbuf.length d3) (.slice B4 r.length d4)) (by omega) (by omega) (by omega)) (fun hHeld => ?_)
            clear hK K
            try simp only [Act.put, List.setIfInBounds_toArray, List.set_cons_zero, List.set_cons_succ]
            clear q0 q1 q2 q3 q4 f0 f1 f2 f3 f4
            have HY2 := Lib.hid (set5_heap (HC1.out.heap (HDR.out.heap HZ2.out id) (show ¬ g + 1 + 1 + 1 + 1 = g + 1 + 1 + 1 by omega)) (.int .i64 0) (.slice B1 kkids.length d1) (.slice B2 kpiv.length d2) (.slice B3 kbuf.length d3) (.slice B4 r.length d4))
            have HC2 := Lib.hid (set5 (w := wa) (g + 1 + 1 + 1 + 1) (.int .i64 0) (.slice B1 kkids.length d1) (.slice B2 kpiv.length d2) (.slice B3 kbuf.length d3) (.slice B4 r.length d4))
            generalize (((((wa.setCell ⟨g + 1 + 1 + 1 + 1, 0, none⟩ (.int .i64 0)).setCell ⟨g + 1 + 1 + 1 + 1, 1, none⟩ (.slice B1 kkids.length d1)).setCell ⟨g + 1 + 1 + 1 + 1, 2, none⟩ (.slice B2 kpiv.length d2)).setCell ⟨g + 1 + 1 + 1 + 1, 3, none⟩ (.slice B3 kbuf.length d3)).setCell ⟨g + 1 + 1 + 1 + 1, 4, none⟩ (.slice B4 r.length d4)) = wb at *
            refine wpAnyH_take (i := 6) (oi := { dst := some 12, op := _, type := _, pos := _, after := _, guard := _ }) (v := ?_) rfl (by kernel_rfl) (by kernel_rfl) (by kernel_rfl) (fun _ _ _ h => h) (Or.inl ⟨by rfl, ?_⟩) (by assumption) ?_
            case refine_2 => intro w hSw; (try dsimp only at hSw); go_simp; all_goals (with_reducible rfl)
            try simp only [Act.put, List.setIfInBounds_toArray, List.set_cons_zero, List.set_cons_succ]
            refine wpAnyH_done (by kernel_rfl) ?_ _
            have HE := Lib.hid hHeld.2.2.2.2.2.2.2.2.2.2
            clear hHeld
            have hy1 := HC2.out.heap HY1.out (show ¬ g + 1 + 1 + 1 = g + 1 + 1 + 1 + 1 by omega)
            have hy2 := HY2.out
            have q0 := heap_cell (j := 0) hy1 rfl
            have q1 := heap_cell (j := 1) hy1 rfl
            have q2 := heap_cell (j := 2) hy1 rfl
            have q3 := heap_cell (j := 3) hy1 rfl
            have q4 := heap_cell (j := 4) hy1 rfl
            have r0 := heap_cell (j := 0) hy2 rfl
            have r1 := heap_cell (j := 1) hy2 rfl
            have r2 := heap_cell (j := 2) hy2 rfl
            have r3 := heap_cell (j := 3) hy2 rfl
            have r4 := heap_cell (j := 4) hy2 rfl
            clear hy1 hy2
            go_wp2
            refine bodyPost_ret (v := .tuple #[.agg #[.int .i64 p.lev, .slice A1 p.kids.length c1, .slice A2 p.piv.length c2, .slice A3 rs.length c3, .slice A4 p.prs.length c4], .agg #[.int .i64 0, .slice B1 kkids.length d1, .slice B2 kpiv.length d2, .slice B3 kbuf.length d3, .slice B4 r.length d4], .int .i64 tk.length]) (by simp [results, Try.results7, go_sem, *]) rfl ?_
            have HQ : pourP c p at_ (⟨0, kkids, kpiv, kbuf, kprs⟩ : Nd) most = ⟨p.lev, p.kids, p.piv, rs, p.prs⟩ ∧ pourK c p at_ (⟨0, kkids, kpiv, kbuf, kprs⟩ : Nd) most = (⟨0, kkids, kpiv, kbuf, r⟩ : Nd) ∧ takenP c p at_ (⟨0, kkids, kpiv, kbuf, kprs⟩ : Nd) most = tk := by
              have hm : mostOf c (⟨0, kkids, kpiv, kbuf, kprs⟩ : Nd) most = most := rfl
              have ht : takenP c p at_ (⟨0, kkids, kpiv, kbuf, kprs⟩ : Nd) most = tk := by
                unfold takenP
                rw [if_neg HEA.out, HSR.out, hm, HTK.out.1]
              refine ⟨?_, ?_, ht⟩
              · unfold pourP
                rw [if_neg HEA.out, HSR.out, hm, HTK.out.2]
              · unfold pourK
                rw [if_neg HEA.out, if_pos rfl, ht, HR.out]
            exact ⟨_, _, by rw [HQ.2.2], by rw [HQ.1]; exact fin_made HP.out HDR.out HC1.out HC2.out (by omega) (by omega), by rw [HQ.2.1]; exact fin_made HK.out HDR.out HC1.out HC2.out (by omega) (by omega), HE.out⟩
          · have HEA := HEA
            have hmm := HH.out.mm
            have hcb := HH.out.cb
            have hbb : kbuf.length ≤ 400000 := HH.out.bb
            obtain ⟨hc8, ⟨A1, c1, A2, c2, A3, c3, A4, c4, hp⟩, ⟨B1, d1, B2, d2, B3, d3, B4, d4, hk⟩, -, -, hst, hsz⟩ := HPW.out
            have p3' := heap_cell (j := 3) hp.at_ rfl
            have k0' : wc.cell? ⟨g + 1 + 1, 0, none⟩ = some (.int .i64 klev) := heap_cell (j := 0) hk.at_ rfl
            have k3' : wc.cell? ⟨g + 1 + 1, 3, none⟩ = some (.slice B3 kbuf.length d3) := heap_cell (j := 3) hk.at_ rfl
            have q4' := hc8.2.2.2.2.1
            obtain ⟨s0, s1, s2⟩ := HC3.out
            have HSZ := Lib.hid hsz
            have HT : Hid (Calls Try.prog 18 #[.slice A3 p.buf.length c3, .agg #[.string lo.1, .string hi.1, .bool top], .int .i64 (min most (c.buffer - (kbuf.length : Int)))] wc (TakeP ⟨lo, hi, top⟩ p.buf (min most (c.buffer - (kbuf.length : Int))) wc)) := Lib.hid (take18 ⟨lo, hi, top⟩ (min most (c.buffer - (kbuf.length : Int))) (by omega) (by omega) hp.s3.1 HH.out.rp HH.out.np.buf)
            have htl : (taken ⟨lo, hi, top⟩ p.buf (min most (c.buffer - (kbuf.length : Int)))).length ≤ 400000 := Nat.le_trans (taken_len _ _ _) HH.out.bp
            clear hc8 hp hk hst hsz
            unfold TakeP at HT
            obtain ⟨tk, htk⟩ : ∃ tk, tk = taken ⟨lo, hi, top⟩ p.buf (min most (c.buffer - (kbuf.length : Int))) := ⟨_, rfl⟩
            obtain ⟨rs, hrs⟩ : ∃ rs, rs = restOf ⟨lo, hi, top⟩ p.buf (min most (c.buffer - (kbuf.length : Int))) := ⟨_, rfl⟩
            rw [← htk, ← hrs] at HT
            rw [← htk] at htl
            have HTK := Lib.hid (And.intro htk hrs)
            clear htk hrs
            go_wp2_with fail
            refine HT.out.mono ?_
            rintro e w2 ⟨v1, v2, rfl, h1, h2, hs⟩
            obtain ⟨T, ct, rfl, qt1, qt2⟩ := h1.1.form
            obtain ⟨R, cr, rfl, -, -⟩ := h2.1.form
            have H1 := Lib.hid (h1.outO HSZ.out)
            have H2 := Lib.hid (h2.outO HSZ.out)
            have HPW2 := Lib.hid (HPW.out.move hs)
            clear h1 h2 hs p3' k0' k3' q4' s0 s1 s2 HT HC3 HPW HSZ
            have HPW3 := Lib.hid (HPW2.out.setP hg H2.out)
            have hch : Chg (fun i => i = g + 1) w2 (w2.setCell ⟨g + 1, 3, none⟩ (.slice R rs.length cr)) := Chg.setCell w2 _ _ rfl
            have H13 := Lib.hid (H1.out.far hch (by omega))
            clear hch
            obtain ⟨-, ⟨A1, c1, A2, c2, A3, c3, A4, c4, hp⟩, -, -, -, -, -⟩ := HPW2.out
            have p3' := heap_cell (j := 3) hp.at_ rfl
            have f3' := heap_free (j := 3) hp.at_
            obtain ⟨-, -, ⟨B1, d1, B2, d2, B3, d3, B4, d4, hk⟩, -, -, -, hsz⟩ := HPW3.out
            have HSZ := Lib.hid hsz
            have k0' : (w2.setCell ⟨g + 1, 3, none⟩ (.slice R rs.length cr)).cell? ⟨g + 1 + 1, 0, none⟩ = some (.int .i64 klev) := heap_cell (j := 0) hk.at_ rfl
            have k3' : (w2.setCell ⟨g + 1, 3, none⟩ (.slice R rs.length cr)).cell? ⟨g + 1 + 1, 3, none⟩ = some (.slice B3 kbuf.length d3) := heap_cell (j := 3) hk.at_ rfl
            have k4' : (w2.setCell ⟨g + 1, 3, none⟩ (.slice R rs.length cr)).cell? ⟨g + 1 + 1, 4, none⟩ = some (.slice B4 kprs.length d4) := heap_cell (j := 4) hk.at_ rfl
            have HC : Hid (Calls Try.prog 20 #[.slice T tk.length ct, .slice B3 kbuf.length d3] (w2.setCell ⟨g + 1, 3, none⟩ (.slice R rs.length cr)) (ConcatP (mergeL tk kbuf) (w2.setCell ⟨g + 1, 3, none⟩ (.slice R rs.length cr)))) := Lib.hid (merge20 H13.out.1 hk.s3.1 (by omega) (by omega))
            obtain ⟨r, hr⟩ : ∃ r, r = mergeL tk kbuf := ⟨_, rfl⟩
            rw [← hr] at HC
            have HR := Lib.hid hr
            clear hr hp hk hsz
            generalize hw3 : w2.setCell ⟨g + 1, 3, none⟩ (.slice R rs.length cr) = w3 at *
            have HW3 := Lib.hid hw3
            clear hw3
            go_upto_region 11 with fail
            rw [HW3.out]
            go_wp2_with fail
            refine HC.out.mono ?_
            rintro e w4 ⟨v5, rfl, h5, hs⟩
            obtain ⟨X, cx, rfl, -, -⟩ := h5.1.form
            have H5 := Lib.hid (h5.outO HSZ.out)
            have HPW4 := Lib.hid (HPW3.out.move hs)
            have H14 := Lib.hid (H13.out.still hs)
            clear h5 hs p3' f3' k0' k3' k4' HC HPW2 HPW3 HSZ
            have HPW5 := Lib.hid (HPW4.out.setKb hg H5.out)
            obtain ⟨-, -, ⟨B1, d1, B2, d2, B3, d3, B4, d4, hk⟩, -, -, -, -⟩ := HPW4.out
            have k4' := heap_cell (j := 3) hk.at_ rfl
            have f4' := heap_free (j := 3) hk.at_
            clear hk
            generalize hw5 : w4.setCell ⟨g + 1 + 1, 3, none⟩ (.slice X r.length cx) = w5 at *
            have HW5 := Lib.hid hw5
            clear hw5
            go_upto_region 14 with fail
            rw [HW5.out]
            clear k4' f4' HW5 HW3 HPW4 H14 H13 H5 H1 H2
            obtain ⟨-, ⟨A1, c1, A2, c2, A3, c3, A4, c4, hp⟩, ⟨B1, d1, B2, d2, B3, d3, B4, d4, hk⟩, z1, z2, hst, hsz⟩ := HPW5.out
            have HP := Lib.hid hp
            have HK := Lib.hid hk
            have HZ1 := Lib.hid z1
            have HZ2 := Lib.hid z2
            have HSZ := Lib.hid hsz
            have hpD := hp.at_
            have hkD := hk.at_
            unfold ZeroN at z1 z2 HZ1 HZ2
            have hD := Chg.drew (S := fun _ => False) w5
            have hp' := hD.heap hpD id
            have hk' := hD.heap hkD id
            have H0 := Lib.hid (And.intro (heap_cell (j := 0) hp' rfl) (And.intro (heap_cell (j := 1) hp' rfl) (And.intro (heap_cell (j := 2) hp' rfl) (And.intro (heap_cell (j := 3) hp' rfl) (And.intro (heap_cell (j := 4) hp' rfl) (And.intro (heap_cell (j := 0) hk' rfl) (And.intro (heap_cell (j := 1) hk' rfl) (And.intro (heap_cell (j := 2) hk' rfl) (And.intro (heap_cell (j := 3) hk' rfl) (And.intro (heap_cell (j := 4) hk' rfl) (hst.trans hD)))))))))))
            clear hpD hkD hD hp' hk' hp hk z1 z2 hst hsz
            refine wp_region_held_drew (S := fun w' => w'.cell? ⟨g + 1, 0, none⟩ = some (.int .i64 p.lev) ∧ w'.cell? ⟨g + 1, 1, none⟩ = some (.slice A1 p.kids.length c1) ∧ w'.cell? ⟨g + 1, 2, none⟩ = some (.slice A2 p.piv.length c2) ∧ w'.cell? ⟨g + 1, 3, none⟩ = some (.slice A3 rs.length c3) ∧ w'.cell? ⟨g + 1, 4, none⟩ = some (.slice A4 p.prs.length c4) ∧ w'.cell? ⟨g + 1 + 1, 0, none⟩ = some (.int .i64 klev) ∧ w'.cell? ⟨g + 1 + 1, 1, none⟩ = some (.slice B1 kkids.length d1) ∧ w'.cell? ⟨g + 1 + 1, 2, none⟩ = some (.slice B2 kpiv.length d2) ∧ w'.cell? ⟨g + 1 + 1, 3, none⟩ = some (.slice B3 r.length d3) ∧ w'.cell? ⟨g + 1 + 1, 4, none⟩ = some (.slice B4 kprs.length d4) ∧ Still w w') (by kernel_rfl) H0.out (fun hHeld => ?_)
            refine wpAnyH_take (i := 0) (oi := { dst := some 90, op := _, type := _, pos := _, after := _, guard := _ }) (v := ?_) rfl (by kernel_rfl) (by kernel_rfl) (by kernel_rfl) (fun _ _ _ h => h) (Or.inl ⟨by rfl, ?_⟩) (by assumption) ?_
            case refine_2 => intro w hSw; (try dsimp only at hSw); go_simp; all_goals (with_reducible rfl)
            try simp only [Act.put, List.setIfInBounds_toArray, List.set_cons_zero, List.set_cons_succ]
            refine wpAnyH_take (i := 1) (oi := { dst := some 91, op := _, type := _, pos := _, after := _, guard := _ }) (v := ?_) rfl (by kernel_rfl) (by kernel_rfl) (by kernel_rfl) (fun _ _ _ h => h) (Or.inl ⟨by rfl, ?_⟩) (by assumption) ?_
            case refine_2 => intro w hSw; (try dsimp only at hSw); go_simp; all_goals (with_reducible rfl)
            try simp only [Act.put, List.setIfInBounds_toArray, List.set_cons_zero, List.set_cons_succ]
            refine wpAnyH_take (i := 2) (oi := { dst := some 92, op := _, type := _, pos := _, after := _, guard := _ }) (v := ?_) rfl (by kernel_rfl) (by kernel_rfl) (by kernel_rfl) (fun _ _ _ h => h) (Or.inl ⟨by rfl, ?_⟩) (by assumption) ?_
            case refine_2 => intro w hSw; (try dsimp only at hSw); go_simp; all_goals (with_reducible rfl)
            try simp only [Act.put, List.setIfInBounds_toArray, List.set_cons_zero, List.set_cons_succ]
            refine wpAnyH_take (i := 3) (oi := { dst := some 93, op := _, type := _, pos := _, after := _, guard := _ }) (v := ?_) rfl (by kernel_rfl) (by kernel_rfl) (by kernel_rfl) (fun _ _ _ h => h) (Or.inl ⟨by rfl, ?_⟩) (by assumption) ?_
            case refine_2 => intro w hSw; (try dsimp only at hSw); go_simp; all_goals (with_reducible rfl)
            try simp only [Act.put, List.setIfInBounds_toArray, List.set_cons_zero, List.set_cons_succ]
            have HDR := Lib.hid (Chg.drew (S := fun _ => False) w5)
            generalize w5.drew = wd at *
            have hx1 := HDR.out.heap HZ1.out id
            have q0 := heap_cell (j := 0) hx1 rfl
            have q1 := heap_cell (j := 1) hx1 rfl
            have q2 := heap_cell (j := 2) hx1 rfl
            have q3 := heap_cell (j := 3) hx1 rfl
            have q4 := heap_cell (j := 4) hx1 rfl
            have f0 := heap_free (j := 0) hx1
            have f1 := heap_free (j := 1) hx1
            have f2 := heap_free (j := 2) hx1
            have f3 := heap_free (j := 3) hx1
            have f4 := heap_free (j := 4) hx1
            clear hx1
            refine wpAnyH_ready (rs := [4]) (by kernel_rfl) (by simp) ?_
            refine AllReadyH.cons (o := { dst := none, op := _, type := _, pos := _, after := _, guard := _ }) rfl (fun K hK => ?_) AllReadyH.nil
            go_simp
            refine hK.out _ _ (keep10 hHeld (set5 (w := wd) (g + 1 + 1 + 1) (.int .i64 p.lev) (.slice A1 p.kids.length c1) (.slice A2 p.piv.length c2) (.slice A3 rs.length c3) (.slice A4 p.prs.length c4)) (by omega) (by omega) (by omega)) (fun hHeld => ?_)
            clear hK K
            try simp only [Act.put, List.setIfInBounds_toArray, List.set_cons_zero, List.set_cons_succ]
            clear q0 q1 q2 q3 q4 f0 f1 f2 f3 f4
            have HY1 := Lib.hid (set5_heap (HDR.out.heap HZ1.out id) (.int .i64 p.lev) (.slice A1 p.kids.length c1) (.slice A2 p.piv.length c2) (.slice A3 rs.length c3) (.slice A4 p.prs.length c4))
            have HC1 := Lib.hid (set5 (w := wd) (g + 1 + 1 + 1) (.int .i64 p.lev) (.slice A1 p.kids.length c1) (.slice A2 p.piv.length c2) (.slice A3 rs.length c3) (.slice A4 p.prs.length c4))
            generalize (((((wd.setCell ⟨g + 1 + 1 + 1, 0, none⟩ (.int .i64 p.lev)).setCell ⟨g + 1 + 1 + 1, 1, none⟩ (.slice A1 p.kids.length c1)).setCell ⟨g + 1 + 1 + 1, 2, none⟩ (.slice A2 p.piv.length c2)).setCell ⟨g + 1 + 1 + 1, 3, none⟩ (.slice A3 rs.length c3)).setCell ⟨g + 1 + 1 + 1, 4, none⟩ (.slice A4 p.prs.length c4)) = wa at *
            have hx2 := HC1.out.heap (HDR.out.heap HZ2.out id) (show ¬ g + 1 + 1 + 1 + 1 = g + 1 + 1 + 1 by omega)
            have q0 := heap_cell (j := 0) hx2 rfl
            have q1 := heap_cell (j := 1) hx2 rfl
            have q2 := heap_cell (j := 2) hx2 rfl
            have q3 := heap_cell (j := 3) hx2 rfl
            have q4 := heap_cell (j := 4) hx2 rfl
            have f0 := heap_free (j := 0) hx2
            have f1 := heap_free (j := 1) hx2
            have f2 := heap_free (j := 2) hx2
            have f3 := heap_free (j := 3) hx2
            have f4 := heap_free (j := 4) hx2
            clear hx2
            refine wpAnyH_ready (rs := [5]) (by kernel_rfl) (by simp) ?_
            refine AllReadyH.cons (o := { dst := none, op := _, type := _, pos := _, after := _, guard := _ }) rfl (fun K hK => ?_) AllReadyH.nil
            go_simp
            refine hK.out _ _ (keep10 hHeld (set5 (w := wa) (g + 1 + 1 + 1 + 1) (.int .i64 klev) (.slice B1 kkids.length d1) (.slice B2 kpiv.length d2) (.slice B3 r.length d3) (.slice B4 kprs.length d4)) (by omega) (by omega) (by omega)) (fun hHeld => ?_)
            clear hK K
            try simp only [Act.put, List.setIfInBounds_toArray, List.set_cons_zero, List.set_cons_succ]
            clear q0 q1 q2 q3 q4 f0 f1 f2 f3 f4
            have HY2 := Lib.hid (set5_heap (HC1.out.heap (HDR.out.heap HZ2.out id) (show ¬ g + 1 + 1 + 1 + 1 = g + 1 + 1 + 1 by omega)) (.int .i64 klev) (.slice B1 kkids.length d1) (.slice B2 kpiv.length d2) (.slice B3 r.length d3) (.slice B4 kprs.length d4))
            have HC2 := Lib.hid (set5 (w := wa) (g + 1 + 1 + 1 + 1) (.int .i64 klev) (.slice B1 kkids.length d1) (.slice B2 kpiv.length d2) (.slice B3 r.length d3) (.slice B4 kprs.length d4))
            generalize (((((wa.setCell ⟨g + 1 + 1 + 1 + 1, 0, none⟩ (.int .i64 klev)).setCell ⟨g + 1 + 1 + 1 + 1, 1, none⟩ (.slice B1 kkids.length d1)).setCell ⟨g + 1 + 1 + 1 + 1, 2, none⟩ (.slice B2 kpiv.length d2)).setCell ⟨g + 1 + 1 + 1 + 1, 3, none⟩ (.slice B3 r.length d3)).setCell ⟨g + 1 + 1 + 1 + 1, 4, none⟩ (.slice B4 kprs.length d4)) = wb at *
            refine wpAnyH_take (i := 6) (oi := { dst := some 12, op := _, type := _, pos := _, after := _, guard := _ }) (v := ?_) rfl (by kernel_rfl) (by kernel_rfl) (by kernel_rfl) (fun _ _ _ h => h) (Or.inl ⟨by rfl, ?_⟩) (by assumption) ?_
            case refine_2 => intro w hSw; (try dsimp only at hSw); go_simp; all_goals (with_reducible rfl)
            try simp only [Act.put, List.setIfInBounds_toArray, List.set_cons_zero, List.set_cons_succ]
            refine wpAnyH_done (by kernel_rfl) ?_ _
            have HE := Lib.hid hHeld.2.2.2.2.2.2.2.2.2.2
            clear hHeld
            have hy1 := HC2.out.heap HY1.out (show ¬ g + 1 + 1 + 1 = g + 1 + 1 + 1 + 1 by omega)
            have hy2 := HY2.out
            have q0 := heap_cell (j := 0) hy1 rfl
            have q1 := heap_cell (j := 1) hy1 rfl
            have q2 := heap_cell (j := 2) hy1 rfl
            have q3 := heap_cell (j := 3) hy1 rfl
            have q4 := heap_cell (j := 4) hy1 rfl
            have r0 := heap_cell (j := 0) hy2 rfl
            have r1 := heap_cell (j := 1) hy2 rfl
            have r2 := heap_cell (j := 2) hy2 rfl
            have r3 := heap_cell (j := 3) hy2 rfl
            have r4 := heap_cell (j := 4) hy2 rfl
            clear hy1 hy2
            go_wp2
            refine bodyPost_ret (v := .tuple #[.agg #[.int .i64 p.lev, .slice A1 p.kids.length c1, .slice A2 p.piv.length c2, .slice A3 rs.length c3, .slice A4 p.prs.length c4], .agg #[.int .i64 klev, .slice B1 kkids.length d1, .slice B2 kpiv.length d2, .slice B3 r.length d3, .slice B4 kprs.length d4], .int .i64 tk.length]) (by simp [results, Try.results7, go_sem, *]) rfl ?_
            have HQ : pourP c p at_ (⟨klev, kkids, kpiv, kbuf, kprs⟩ : Nd) most = ⟨p.lev, p.kids, p.piv, rs, p.prs⟩ ∧ pourK c p at_ (⟨klev, kkids, kpiv, kbuf, kprs⟩ : Nd) most = (⟨klev, kkids, kpiv, r, kprs⟩ : Nd) ∧ takenP c p at_ (⟨klev, kkids, kpiv, kbuf, kprs⟩ : Nd) most = tk := by
              have hm : mostOf c (⟨klev, kkids, kpiv, kbuf, kprs⟩ : Nd) most = (min most (c.buffer - (kbuf.length : Int))) := if_pos hl
              have ht : takenP c p at_ (⟨klev, kkids, kpiv, kbuf, kprs⟩ : Nd) most = tk := by
                unfold takenP
                rw [if_neg HEA.out, HSR.out, hm, HTK.out.1]
              refine ⟨?_, ?_, ht⟩
              · unfold pourP
                rw [if_neg HEA.out, HSR.out, hm, HTK.out.2]
              · unfold pourK
                rw [if_neg HEA.out, if_neg (show ¬ klev = 0 by omega), ht, HR.out]
            exact ⟨_, _, by rw [HQ.2.2], by rw [HQ.1]; exact fin_made HP.out HDR.out HC1.out HC2.out (by omega) (by omega), by rw [HQ.2.1]; exact fin_made HK.out HDR.out HC1.out HC2.out (by omega) (by omega), HE.out⟩
end Go.Proofs.Ytekoibglogoaaaa
