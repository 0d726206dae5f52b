/- Settings, by their contracts. -/
import Derived.Test.YtekoibglogoaaaaCb
namespace Go.Proofs.Ytekoibglogoaaaa
open Go Go.RowKit Go.Shelf
set_option linter.unusedVariables false
set_option linter.unusedSimpArgs false

structure Conf where
  blocks : Int
  bytes : Int
  frames : Int
  fan : Int
  buffer : Int
  leaf : Int
  key : Int
  val : Int
def Conf.vs (c : Conf) : Array Value := #[.int .i64 c.blocks, .int .i64 c.bytes, .int .i64 c.frames, .int .i64 c.fan, .int .i64 c.buffer, .int .i64 c.leaf, .int .i64 c.key, .int .i64 c.val]
def inB (n lo hi : Int) : Bool := decide (lo ≤ n) && decide (n ≤ hi)
theorem inB_iff {n lo hi : Int} : inB n lo hi = true ↔ lo ≤ n ∧ n ≤ hi := by unfold inB; simp
theorem inB_not {n lo hi : Int} (h : inB n lo hi = false) : ¬ (lo ≤ n ∧ n ≤ hi) := fun h' => by rw [inB_iff.2 h'] at h; simp at h

theorem in9 (n lo hi : Int) (w : World) : Calls Try.prog 33 #[.int .i64 n, .int .i64 lo, .int .i64 hi] w fun e w' => e = .returned (.bool (inB n lo hi)) ∧ w = w' := by
  by_cases h1 : lo ≤ n
  · by_cases h2 : n ≤ hi
    · have HI := Lib.hid (inB_iff.2 ⟨h1, h2⟩)
      go_enter Try.func33, Try.ntmps33
      go_wp2
      go_ret
      exact ⟨by rw [HI.out]; rfl, rfl⟩
    · have HI := Lib.hid (show inB n lo hi = false by unfold inB; simp [h2])
      go_enter Try.func33, Try.ntmps33
      go_wp2
      go_ret
      exact ⟨by rw [HI.out]; rfl, rfl⟩
  · have HI := Lib.hid (show inB n lo hi = false by unfold inB; simp [h1])
    go_enter Try.func33, Try.ntmps33
    go_wp2
    go_ret
    exact ⟨by rw [HI.out]; rfl, rfl⟩

def sizedB (c : Conf) : Bool := inB c.fan 8 64 && inB c.key 1 64 && inB c.val 0 256 && inB c.buffer (2 * c.fan) 512 && inB c.leaf c.buffer 1024
set_option maxRecDepth 100000 in
theorem sized (c : Conf) (w : World) : Calls Try.prog 32 #[.agg c.vs] w fun e w' => e = .returned (.bool (sizedB c)) ∧ Still w w' := by
  obtain ⟨c0, c1, c2, c3, c4, c5, c6, c7⟩ := c
  unfold Conf.vs sizedB
  simp only
  cases b1 : inB c3 8 64 with
  | false =>
    have B1 := Lib.hid b1
    clear b1
    go_enter Try.func32, Try.ntmps32
    go_wp2_with (go_at_call 33; refine (in9 _ _ _ _).mono ?_; rintro e w1 ⟨rfl, rfl⟩; rw [B1.out])
    go_ret
    exact ⟨rfl, Chg.alloc w _⟩
  | true =>
    have h1 := inB_iff.1 b1
    have B1 := Lib.hid b1
    clear b1
    cases b2 : inB c6 1 64 with
    | false =>
      have B2 := Lib.hid b2
      clear b2
      go_enter Try.func32, Try.ntmps32
      go_wp2_with (go_at_call 33; refine (in9 _ _ _ _).mono ?_; rintro e w1 ⟨rfl, rfl⟩; first | rw [B1.out] | rw [B2.out])
      go_ret
      exact ⟨rfl, Chg.alloc w _⟩
    | true =>
      have B2 := Lib.hid b2
      clear b2
      cases b3 : inB c7 0 256 with
      | false =>
        have B3 := Lib.hid b3
        clear b3
        go_enter Try.func32, Try.ntmps32
        go_wp2_with (go_at_call 33; refine (in9 _ _ _ _).mono ?_; rintro e w1 ⟨rfl, rfl⟩; first | rw [B1.out] | rw [B2.out] | rw [B3.out])
        go_ret
        exact ⟨rfl, Chg.alloc w _⟩
      | true =>
        have B3 := Lib.hid b3
        clear b3
        have hm : 0 ≤ c3 ∧ c3 ≤ 64 := by omega
        cases b4 : inB c4 (2 * c3) 512 with
        | false =>
          have B4 := Lib.hid b4
          clear b4
          go_enter Try.func32, Try.ntmps32
          go_wp2_with (go_at_call 33; refine (in9 _ _ _ _).mono ?_; rintro e w1 ⟨rfl, rfl⟩; first | rw [B1.out] | rw [B2.out] | rw [B3.out] | rw [B4.out])
          go_ret
          exact ⟨rfl, Chg.alloc w _⟩
        | true =>
          have B4 := Lib.hid b4
          clear b4
          have B5 : Hid (inB c5 c4 1024 = inB c5 c4 1024) := Lib.hid rfl
          go_enter Try.func32, Try.ntmps32
          go_wp2_with (go_at_call 33; refine (in9 _ _ _ _).mono ?_; rintro e w1 ⟨rfl, rfl⟩; first | rw [B1.out] | rw [B2.out] | rw [B3.out] | rw [B4.out] | skip)
          go_ret
          exact ⟨rfl, Chg.alloc w _⟩

def in1 (c : Conf) : Nat → Int
  | 0 => 8
  | k + 1 => in1 c k + 4 + (if k = 0 then 0 else 1 + c.key)
def in2 (c : Conf) (n : Int) : Nat → Int
  | 0 => n
  | k + 1 => in2 c n k + 4 + c.key + c.val
def ou (c : Conf) : Nat → Int
  | 0 => 8
  | k + 1 => ou c k + 3 + c.key + c.val
def innerB (c : Conf) : Int := if sizedB c then in2 c (in1 c c.fan.toNat) c.buffer.toNat else 0
def outerB (c : Conf) : Int := if sizedB c then ou c c.leaf.toNat else 0
theorem in1_le (c : Conf) (h : 0 ≤ c.key ∧ c.key ≤ 64) : ∀ k : Nat, 0 ≤ in1 c k ∧ in1 c k ≤ 8 + 70 * k
  | 0 => by simp [in1]
  | k + 1 => by have := in1_le c h k; unfold in1; split <;> omega
theorem in2_le (c : Conf) (n : Int) (hn : 0 ≤ n) (h : 0 ≤ c.key ∧ c.key ≤ 64) (h2 : 0 ≤ c.val ∧ c.val ≤ 256) : ∀ k : Nat, 0 ≤ in2 c n k ∧ in2 c n k ≤ n + 400 * k
  | 0 => by simp [in2]; omega
  | k + 1 => by have := in2_le c n hn h h2 k; unfold in2; omega
theorem ou_le (c : Conf) (h : 0 ≤ c.key ∧ c.key ≤ 64) (h2 : 0 ≤ c.val ∧ c.val ≤ 256) : ∀ k : Nat, 0 ≤ ou c k ∧ ou c k ≤ 8 + 400 * k
  | 0 => by simp [ou]
  | k + 1 => by have := ou_le c h h2 k; unfold ou; omega
structure SizedP (c : Conf) : Prop where
  f1 : 8 ≤ c.fan
  f2 : c.fan ≤ 64
  k1 : 1 ≤ c.key
  k2 : c.key ≤ 64
  v1 : 0 ≤ c.val
  v2 : c.val ≤ 256
  b1 : 2 * c.fan ≤ c.buffer
  b2 : c.buffer ≤ 512
  l1 : c.buffer ≤ c.leaf
  l2 : c.leaf ≤ 1024
theorem sizedP {c : Conf} (h : sizedB c = true) : SizedP c := by
  unfold sizedB at h
  simp only [Bool.and_eq_true, inB_iff] at h
  obtain ⟨⟨⟨⟨h1, h2⟩, h3⟩, h4⟩, h5⟩ := h
  exact ⟨h1.1, h1.2, h2.1, h2.2, h3.1, h3.2, h4.1, h4.2, h5.1, h5.2⟩
end Go.Proofs.Ytekoibglogoaaaa
