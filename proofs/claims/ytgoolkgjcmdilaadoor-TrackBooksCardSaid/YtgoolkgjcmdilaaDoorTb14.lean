/-
  Tb, part 14 of 36: the texts BiA BiB BiC.
-/
import Derived.BigRegion
import Derived.LoopN
import Derived.Deep.CutBlock
import Derived.Deep.DeepCutAuto
import Derived.Test.YtgoolkgjcmdilaaDoorTb11
section
namespace Go.Proofs.YtgoolkgjcmdilaaDoor
open Go.RowKit
set_option linter.unusedVariables false
set_option linter.unusedSimpArgs false
set_option linter.unnecessarySimpa false
/-- The sum of k digits of n bits each. -/
def ds (n : Nat) : Nat → Nat → Nat
  | 0, _ => 0
  | k + 1, x => x % 2 ^ n + ds n k (x / 2 ^ n)
/-- Each of k digits is at most c. -/
def dg (n c : Nat) : Nat → Nat → Prop
  | 0, _ => True
  | k + 1, x => x % 2 ^ n ≤ c ∧ dg n c k (x / 2 ^ n)
/-- Of k fields of 2 n bits the lower halves. -/
def mk (n : Nat) : Nat → Nat
  | 0 => 0
  | k + 1 => mk n k * 2 ^ (2 * n) + (2 ^ n - 1)
/-- The halves of each field added. -/
def fd (n : Nat) : Nat → Nat → Nat
  | 0, _ => 0
  | k + 1, x => fd n k (x / 2 ^ (2 * n)) * 2 ^ (2 * n) + (x % 2 ^ n + x / 2 ^ n % 2 ^ n)
theorem mk_succ (n k : Nat) : mk n (k + 1) = mk n k * 2 ^ (2 * n) + (2 ^ n - 1) := rfl
theorem fd_succ (n k x : Nat) : fd n (k + 1) x = fd n k (x / 2 ^ (2 * n)) * 2 ^ (2 * n) + (x % 2 ^ n + x / 2 ^ n % 2 ^ n) := rfl
theorem ds_succ (n k x : Nat) : ds n (k + 1) x = x % 2 ^ n + ds n k (x / 2 ^ n) := rfl
theorem and_split (a b r m n : Nat) (hr : r < 2 ^ n) (hm : m < 2 ^ n) : (a * 2 ^ n + r) &&& (b * 2 ^ n + m) = (a &&& b) * 2 ^ n + (r &&& m) := by
  refine Nat.eq_of_testBit_eq fun j => ?_
  have hrm : r &&& m < 2 ^ n := Nat.and_lt_two_pow r hm
  rw [Nat.testBit_and, Nat.mul_comm a, Nat.mul_comm b, Nat.mul_comm (a &&& b), Nat.testBit_two_pow_mul_add a hr, Nat.testBit_two_pow_mul_add b hm, Nat.testBit_two_pow_mul_add (a &&& b) hrm]
  split
  · rw [Nat.testBit_and]
  · rw [Nat.testBit_and]
theorem pow2 (n : Nat) : 2 ^ (2 * n) = 2 ^ n * 2 ^ n := by rw [Nat.two_mul, Nat.pow_add]
theorem low_and (r n : Nat) : r &&& (2 ^ n - 1) = r % 2 ^ n := Nat.and_two_pow_sub_one_eq_mod r n
theorem and_mk (n k x : Nat) : x &&& mk n (k + 1) = ((x / 2 ^ (2 * n)) &&& mk n k) * 2 ^ (2 * n) + x % 2 ^ n := by
  have hp : 0 < 2 ^ n := Nat.pow_pos (by decide)
  have hp2 := pow2 n
  have hle : 2 ^ n ≤ 2 ^ n * 2 ^ n := Nat.le_mul_of_pos_left _ hp
  have h1 : x = x / 2 ^ (2 * n) * 2 ^ (2 * n) + x % 2 ^ (2 * n) := by
    have := Nat.div_add_mod x (2 ^ (2 * n))
    rw [Nat.mul_comm] at this
    omega
  conv => lhs; rw [h1]
  rw [mk_succ, and_split _ _ _ _ _ (Nat.mod_lt _ (by rw [hp2]; exact Nat.mul_pos hp hp)) (by rw [hp2]; omega), low_and, hp2, Nat.mod_mul_right_mod]
theorem div_and_mk (n k x : Nat) : (x / 2 ^ n) &&& mk n (k + 1) = ((x / 2 ^ (2 * n) / 2 ^ n) &&& mk n k) * 2 ^ (2 * n) + x / 2 ^ n % 2 ^ n := by
  rw [and_mk, Nat.div_div_eq_div_mul, Nat.div_div_eq_div_mul, Nat.mul_comm (2 ^ n) (2 ^ (2 * n))]
/-- The two halves, each masked, added. -/
theorem two_and (n : Nat) : ∀ k x : Nat, ((x / 2 ^ n) &&& mk n k) + (x &&& mk n k) = fd n k x
  | 0, x => by simp [mk, fd]
  | k + 1, x => by
    rw [div_and_mk, and_mk]
    have := two_and n k (x / 2 ^ (2 * n))
    rw [fd_succ, ← this, Nat.add_mul]
    omega
theorem fd_ds (n : Nat) : ∀ k x : Nat, ds (2 * n) k (fd n k x) = ds n (2 * k) x
  | 0, x => by simp [ds]
  | k + 1, x => by
    have hp : 0 < 2 ^ n := Nat.pow_pos (by decide)
    have hp2 := pow2 n
    have a1 := Nat.mod_lt x hp
    have a2 := Nat.mod_lt (x / 2 ^ n) hp
    have hs : x % 2 ^ n + x / 2 ^ n % 2 ^ n < 2 ^ (2 * n) := by
      rw [hp2]
      have h2 : 2 ^ n + 2 ^ n ≤ 2 ^ n * 2 ^ n + 1 := by
        rcases Nat.eq_or_lt_of_le (show 1 ≤ 2 ^ n from hp) with h | h
        · rw [← h]; decide
        · have : 2 * 2 ^ n ≤ 2 ^ n * 2 ^ n := Nat.mul_le_mul_right _ h
          omega
      omega
    have e1 : (fd n (k + 1) x) % 2 ^ (2 * n) = x % 2 ^ n + x / 2 ^ n % 2 ^ n := by
      rw [fd_succ, Nat.add_comm, Nat.add_mul_mod_self_right, Nat.mod_eq_of_lt hs]
    have e2 : (fd n (k + 1) x) / 2 ^ (2 * n) = fd n k (x / 2 ^ (2 * n)) := by
      rw [fd_succ, Nat.add_comm, Nat.add_mul_div_right _ _ (Nat.pow_pos (by decide)), Nat.div_eq_of_lt hs, Nat.zero_add]
    show (fd n (k + 1) x) % 2 ^ (2 * n) + ds (2 * n) k ((fd n (k + 1) x) / 2 ^ (2 * n)) = _
    rw [e1, e2, fd_ds n k]
    show _ = ds n (2 * k + 1 + 1) x
    rw [ds_succ, ds_succ, Nat.div_div_eq_div_mul, ← hp2]
    omega
theorem fd_dg (n c : Nat) (hc : c + c < 2 ^ (2 * n)) : ∀ k x : Nat, dg n c (2 * k) x → dg (2 * n) (c + c) k (fd n k x)
  | 0, x, _ => trivial
  | k + 1, x, h => by
    have h' : dg n c (2 * k + 1 + 1) x := h
    obtain ⟨h1, h2, h3⟩ := h'
    have hs : x % 2 ^ n + x / 2 ^ n % 2 ^ n < 2 ^ (2 * n) := by omega
    have e1 : (fd n (k + 1) x) % 2 ^ (2 * n) = x % 2 ^ n + x / 2 ^ n % 2 ^ n := by
      rw [fd_succ, Nat.add_comm, Nat.add_mul_mod_self_right, Nat.mod_eq_of_lt hs]
    have e2 : (fd n (k + 1) x) / 2 ^ (2 * n) = fd n k (x / 2 ^ (2 * n)) := by
      rw [fd_succ, Nat.add_comm, Nat.add_mul_div_right _ _ (Nat.pow_pos (by decide)), Nat.div_eq_of_lt hs, Nat.zero_add]
    refine ⟨by rw [e1]; omega, ?_⟩
    rw [e2]
    refine fd_dg n c hc k _ ?_
    rw [pow2, ← Nat.div_div_eq_div_mul]
    exact h3
/-- Added first and masked then: where no digit's sum passes its field's half. -/
theorem sum_and (n c : Nat) (hc : c + c < 2 ^ n) : ∀ k x : Nat, dg n c (2 * k) x → x < 2 ^ (2 * n * k) → (x / 2 ^ n + x) &&& mk n k = fd n k x
  | 0, x, _, h => by simp [mk, fd]
  | k + 1, x, h, hx => by
    have h' : dg n c (2 * k + 1 + 1) x := h
    obtain ⟨h1, h2, h3⟩ := h'
    have hp : 0 < 2 ^ n := Nat.pow_pos (by decide)
    have hp2 := pow2 n
    have h3' : dg n c (2 * k) (x / 2 ^ (2 * n)) := by rw [hp2, ← Nat.div_div_eq_div_mul]; exact h3
    have hx' : x / 2 ^ (2 * n) < 2 ^ (2 * n * k) := by
      rw [Nat.div_lt_iff_lt_mul (Nat.pow_pos (by decide)), ← Nat.pow_add]
      exact hx
    have ih := sum_and n c hc k _ h3' hx'
    -- x = (y B + l) B² .. : y: the fields above
    obtain ⟨y, hy⟩ : ∃ y, y = x / 2 ^ (2 * n) := ⟨_, rfl⟩
    obtain ⟨l, hl⟩ : ∃ l, l = x % 2 ^ n := ⟨_, rfl⟩
    obtain ⟨m, hm⟩ : ∃ m, m = x / 2 ^ n % 2 ^ n := ⟨_, rfl⟩
    obtain ⟨B, hB⟩ : ∃ B, B = 2 ^ n := ⟨_, rfl⟩
    have e0 : x = y * (B * B) + m * B + l := by
      have q1 := Nat.div_add_mod x B
      have q2 := Nat.div_add_mod (x / B) B
      have q3 : x / B / B = y := by rw [hy, hp2, ← hB, Nat.div_div_eq_div_mul]
      rw [hB] at q1 q2 q3 ⊢
      rw [q3, ← hm] at q2
      rw [← hl] at q1
      rw [← q1, ← q2, Nat.mul_add, Nat.mul_comm (2 ^ n) (2 ^ n * y), Nat.mul_comm (2 ^ n) y, Nat.mul_assoc, Nat.mul_comm (2 ^ n) m]
    have e1 : x / 2 ^ n = y * B + m := by
      have q2 := Nat.div_add_mod (x / B) B
      have q3 : x / B / B = y := by rw [hy, hp2, ← hB, Nat.div_div_eq_div_mul]
      rw [hB] at q2 q3 ⊢
      rw [q3, ← hm, Nat.mul_comm] at q2
      exact q2.symm
    obtain ⟨y1, hy1⟩ : ∃ y1, y1 = y / B := ⟨_, rfl⟩
    obtain ⟨y0, hy0⟩ : ∃ y0, y0 = y % B := ⟨_, rfl⟩
    have ey : y = y1 * B + y0 := by
      have := Nat.div_add_mod y B
      rw [← hy1, ← hy0, Nat.mul_comm] at this
      exact this.symm
    have hy0c : y0 ≤ c ∨ k = 0 := by
      cases k with
      | zero => exact .inr rfl
      | succ k =>
        have h4 : dg n c (2 * k + 1 + 1) (x / 2 ^ (2 * n)) := h3'
        rw [← hy] at h4
        exact .inl (by rw [hy0, hB]; exact h4.1)
    have hy00 : y0 ≤ c := by
      rcases hy0c with q | q
      · exact q
      · rw [q] at hx'
        have : y = 0 := by rw [hy]; simpa using hx'
        rw [hy0, this]; simp
    have e2 : x / 2 ^ n + x = (y1 + y) * (B * B) + ((y0 + m) * B + (m + l)) := by
      rw [e1]
      conv => lhs; rw [e0]
      have e3 : y * B = y1 * (B * B) + y0 * B := by conv => lhs; rw [ey]; rw [Nat.add_mul, Nat.mul_assoc]
      rw [e3, Nat.add_mul, Nat.add_mul]
      omega
    have hlc : l ≤ c := by rw [hl]; exact h1
    have hmc : m ≤ c := by rw [hm]; exact h2
    have hlow : (y0 + m) * B + (m + l) < B * B := by
      have : (y0 + m + 1) * B ≤ B * B := Nat.mul_le_mul_right _ (by rw [hB]; omega)
      rw [Nat.add_mul] at this
      rw [hB] at *
      omega
    have hpB : 0 < B * B := by rw [hB]; exact Nat.mul_pos hp hp
    have e4 : (x / 2 ^ n + x) / 2 ^ (2 * n) = y / 2 ^ n + y := by
      rw [e2, hp2, ← hB, Nat.add_comm, Nat.add_mul_div_right _ _ hpB, Nat.div_eq_of_lt hlow, Nat.zero_add, hy1]
    have e5 : (x / 2 ^ n + x) % 2 ^ n = m + l := by
      rw [e2, ← hB, ← Nat.mul_assoc, Nat.add_comm, Nat.add_mul_mod_self_right, Nat.add_comm, Nat.add_mul_mod_self_right]
      exact Nat.mod_eq_of_lt (by rw [hB]; omega)
    rw [and_mk, e4, e5, fd_succ]
    rw [← hy] at ih
    rw [ih, ← hy, ← hl, ← hm]
    omega
theorem dg_one : ∀ k x : Nat, dg 1 1 k x
  | 0, _ => trivial
  | k + 1, x => ⟨by have := Nat.mod_lt x (show 0 < 2 ^ 1 by decide); omega, dg_one k _⟩
/-- The masks of math/bits. -/
theorem mk1 : mk 1 32 = 6148914691236517205 := by decide +kernel
theorem mk2 : mk 2 16 = 3689348814741910323 := by decide +kernel
theorem mk4 : mk 4 8 = 1085102592571150095 := by decide +kernel
def swar3 (x : Nat) : Nat := fd 4 8 (fd 2 16 (fd 1 32 x))
theorem swar_dg1 (x : Nat) : dg 2 2 32 (fd 1 32 x) := fd_dg 1 1 (by decide) 32 x (dg_one 64 x)
theorem swar_dg2 (x : Nat) : dg 4 4 16 (fd 2 16 (fd 1 32 x)) := fd_dg 2 2 (by decide) 16 _ (swar_dg1 x)
theorem swar_dg3 (x : Nat) : dg 8 8 8 (swar3 x) := fd_dg 4 4 (by decide) 8 _ (swar_dg2 x)
theorem swar_ds (x : Nat) : ds 8 8 (swar3 x) = ds 1 64 x := by
  unfold swar3
  rw [fd_ds 4 8, fd_ds 2 16, fd_ds 1 32]
theorem fd_lt (n : Nat) (hn : 2 ^ n + 2 ^ n ≤ 2 ^ (2 * n) + 1) : ∀ k x : Nat, fd n k x < 2 ^ (2 * n * k)
  | 0, x => by simp [fd]
  | k + 1, x => by
    have hp : 0 < 2 ^ n := Nat.pow_pos (by decide)
    have ih := fd_lt n hn k (x / 2 ^ (2 * n))
    have a1 := Nat.mod_lt x hp
    have a2 := Nat.mod_lt (x / 2 ^ n) hp
    have hm : (fd n k (x / 2 ^ (2 * n)) + 1) * 2 ^ (2 * n) ≤ 2 ^ (2 * n * k) * 2 ^ (2 * n) := Nat.mul_le_mul_right _ ih
    rw [Nat.add_mul, Nat.one_mul] at hm
    rw [fd_succ, Nat.mul_add, Nat.mul_one, Nat.pow_add]
    omega
set_option maxHeartbeats 1000000 in
/-- Eight bytes of at most 8, added up. -/
theorem bytes8 (z : Nat) (h : dg 8 8 8 z) (hz : z < 18446744073709551616) : (((z + z / 256) + (z + z / 256) / 65536) + ((z + z / 256) + (z + z / 256) / 65536) / 4294967296) % 128 = ds 8 8 z ∧
    z + z / 256 < 18446744073709551616 ∧ (z + z / 256) + (z + z / 256) / 65536 < 18446744073709551616 ∧ ((z + z / 256) + (z + z / 256) / 65536) + ((z + z / 256) + (z + z / 256) / 65536) / 4294967296 ≤ 4611686018427387904 := by
  simp only [dg, ds, Nat.reducePow] at h ⊢
  obtain ⟨h0, h1, h2, h3, h4, h5, h6, h7, -⟩ := h
  obtain ⟨z1, e1⟩ : ∃ y, y = z / 256 := ⟨_, rfl⟩
  obtain ⟨z2, e2⟩ : ∃ y, y = z1 / 256 := ⟨_, rfl⟩
  obtain ⟨z3, e3⟩ : ∃ y, y = z2 / 256 := ⟨_, rfl⟩
  obtain ⟨z4, e4⟩ : ∃ y, y = z3 / 256 := ⟨_, rfl⟩
  obtain ⟨z5, e5⟩ : ∃ y, y = z4 / 256 := ⟨_, rfl⟩
  obtain ⟨z6, e6⟩ : ∃ y, y = z5 / 256 := ⟨_, rfl⟩
  obtain ⟨z7, e7⟩ : ∃ y, y = z6 / 256 := ⟨_, rfl⟩
  rw [← e1] at h1 h2 h3 h4 h5 h6 h7 ⊢
  rw [← e2] at h2 h3 h4 h5 h6 h7 ⊢
  rw [← e3] at h3 h4 h5 h6 h7 ⊢
  rw [← e4] at h4 h5 h6 h7 ⊢
  rw [← e5] at h5 h6 h7 ⊢
  rw [← e6] at h6 h7 ⊢
  rw [← e7] at h7 ⊢
  obtain ⟨a0, q0⟩ : ∃ a, a = z % 256 := ⟨_, rfl⟩
  rw [← q0] at h0 ⊢
  have g0 : z = 256 * z1 + a0 := by omega
  obtain ⟨a1, q1⟩ : ∃ a, a = z1 % 256 := ⟨_, rfl⟩
  rw [← q1] at h1 ⊢
  have g1 : z1 = 256 * z2 + a1 := by omega
  obtain ⟨a2, q2⟩ : ∃ a, a = z2 % 256 := ⟨_, rfl⟩
  rw [← q2] at h2 ⊢
  have g2 : z2 = 256 * z3 + a2 := by omega
  obtain ⟨a3, q3⟩ : ∃ a, a = z3 % 256 := ⟨_, rfl⟩
  rw [← q3] at h3 ⊢
  have g3 : z3 = 256 * z4 + a3 := by omega
  obtain ⟨a4, q4⟩ : ∃ a, a = z4 % 256 := ⟨_, rfl⟩
  rw [← q4] at h4 ⊢
  have g4 : z4 = 256 * z5 + a4 := by omega
  obtain ⟨a5, q5⟩ : ∃ a, a = z5 % 256 := ⟨_, rfl⟩
  rw [← q5] at h5 ⊢
  have g5 : z5 = 256 * z6 + a5 := by omega
  obtain ⟨a6, q6⟩ : ∃ a, a = z6 % 256 := ⟨_, rfl⟩
  rw [← q6] at h6 ⊢
  have g6 : z6 = 256 * z7 + a6 := by omega
  have g7 : z7 ≤ 8 := by omega
  have m7 : z7 % 256 = z7 := by omega
  rw [m7]
  clear h7 m7 e1 e2 e3 e4 e5 e6 e7 q0 q1 q2 q3 q4 q5 q6
  have f2 : (z + z1) / 65536 = z2 + z3 := by clear g3 g4 g5 g6 g7; omega
  rw [f2]
  have k0 : z = 4294967296 * z4 + (16777216 * a3 + 65536 * a2 + 256 * a1 + a0) := by omega
  have k1 : z1 = 4294967296 * z5 + (16777216 * a4 + 65536 * a3 + 256 * a2 + a1) := by omega
  have k2 : z2 = 4294967296 * z6 + (16777216 * a5 + 65536 * a4 + 256 * a3 + a2) := by omega
  have k3 : z3 = 4294967296 * z7 + (16777216 * a6 + 65536 * a5 + 256 * a4 + a3) := by omega
  have f3 : (z + z1 + (z2 + z3)) / 4294967296 = z4 + z5 + (z6 + z7) := by clear g0 g1 g2 g3 g4 g5 g6 f2; omega
  rw [f3]
  clear f2 f3 k0 k1 k2 k3
  refine ⟨by omega, by omega, by omega, by omega⟩
end Go.Proofs.YtgoolkgjcmdilaaDoor
end
section
namespace Go.Proofs.YtgoolkgjcmdilaaDoor
open Go.RowKit
set_option linter.unusedVariables false
set_option linter.unusedSimpArgs false
attribute [local go_sem] Oper.semAt_some
theorem and127 {y : Nat} (h : y ≤ 4611686018427387904) : bits BinOp.and IntKind.i64 (wrap64 (y : Int)) 127 = ((y % 128 : Nat) : Int) := by
  rw [w64 (by omega)]
  have h1 : (BitVec.ofInt 64 (y : Int)).toNat = y := by
    rw [BitVec.ofInt_natCast, BitVec.toNat_ofNat]; exact Nat.mod_eq_of_lt (by omega)
  have h2 : (BitVec.ofInt 64 (127 : Int)).toNat = 127 := by decide
  show IntKind.i64.wrap ((BitVec.ofInt 64 (y : Int) &&& BitVec.ofInt 64 (127 : Int)).toNat : Int) = _
  rw [BitVec.toNat_and, h1, h2, show (127 : Nat) = 2 ^ 7 - 1 from rfl, Nat.and_two_pow_sub_one_eq_mod, wr (by omega)]
theorem wrU {y : Nat} (h : y < 18446744073709551616) : IntKind.u64.wrap (y : Int) = (y : Int) := by
  rw [IntKind.wrap_u64]; omega
set_option maxRecDepth 100000 in
theorem ones_any (w : World) (x : Nat) (hx : x < 18446744073709551616) : Calls Tryd.prog 91 #[.int .u64 (x : Nat)] w fun e w' => e = .returned (.int .i64 (ds 1 64 x : Nat)) ∧ w = w' := by
  have hz := bytes8 (swar3 x) (swar_dg3 x) (by have := fd_lt 4 (by decide) 8 (fd 2 16 (fd 1 32 x)); unfold swar3; simpa using this)
  rw [swar_ds] at hz
  have l1 := fd_lt 1 (by decide) 32 x
  have l2 := fd_lt 2 (by decide) 16 (fd 1 32 x)
  have l3 := fd_lt 4 (by decide) 8 (fd 2 16 (fd 1 32 x))
  simp only [Nat.reduceMul, Nat.reducePow] at l1 l2 l3
  have t1 := two_and 1 32 x
  have t2 := two_and 2 16 (fd 1 32 x)
  have t3 := sum_and 4 4 (by decide) 8 (fd 2 16 (fd 1 32 x)) (swar_dg2 x) (by simpa using l2)
  rw [mk1] at t1
  rw [mk2] at t2
  rw [mk4] at t3
  simp only [Nat.reducePow] at t1 t2 t3
  have hs : swar3 x = fd 4 8 (fd 2 16 (fd 1 32 x)) := rfl
  rw [hs] at hz
  obtain ⟨y1, hy1⟩ : ∃ y, y = fd 1 32 x := ⟨_, rfl⟩
  rw [← hy1] at t1 t2 t3 l1 l2 l3 hz
  obtain ⟨y2, hy2⟩ : ∃ y, y = fd 2 16 y1 := ⟨_, rfl⟩
  rw [← hy2] at t2 t3 l2 l3 hz
  obtain ⟨y3, hy3⟩ : ∃ y, y = fd 4 8 y2 := ⟨_, rfl⟩
  rw [← hy3] at t3 l3 hz
  have hD := swar_dg2 x
  rw [← hy1, ← hy2] at hD
  have y2s : y2 / 16 + y2 < 18446744073709551616 := by
    simp only [dg, Nat.reducePow, Nat.div_div_eq_div_mul, Nat.reduceMul] at hD
    obtain ⟨-, -, -, -, -, -, -, -, -, -, -, -, -, -, -, h15, -⟩ := hD
    omega
  obtain ⟨a1, ha1⟩ : ∃ a, a = x / 2 &&& 6148914691236517205 := ⟨_, rfl⟩
  obtain ⟨a2, ha2⟩ : ∃ a, a = x &&& 6148914691236517205 := ⟨_, rfl⟩
  obtain ⟨a3, ha3⟩ : ∃ a, a = y1 / 4 &&& 3689348814741910323 := ⟨_, rfl⟩
  obtain ⟨a4, ha4⟩ : ∃ a, a = y1 &&& 3689348814741910323 := ⟨_, rfl⟩
  rw [← ha1, ← ha2] at t1
  rw [← ha3, ← ha4] at t2
  have e1 : bits BinOp.and IntKind.u64 ((x : Int) / 2) 6148914691236517205 = (a1 : Int) := by rw [ha1]; exact bits_and_u64_nat (x / 2) 6148914691236517205 (by omega) (by decide)
  have e2 : bits BinOp.and IntKind.u64 (x : Int) 6148914691236517205 = (a2 : Int) := by rw [ha2]; exact bits_and_u64_nat x 6148914691236517205 hx (by decide)
  have e3 : IntKind.u64.wrap ((a1 : Int) + (a2 : Int)) = (y1 : Int) := by rw [← Int.natCast_add, t1]; exact wrU l1
  have e4 : bits BinOp.and IntKind.u64 ((y1 : Int) / 4) 3689348814741910323 = (a3 : Int) := by rw [ha3]; exact bits_and_u64_nat (y1 / 4) 3689348814741910323 (by omega) (by decide)
  have e5 : bits BinOp.and IntKind.u64 (y1 : Int) 3689348814741910323 = (a4 : Int) := by rw [ha4]; exact bits_and_u64_nat y1 3689348814741910323 l1 (by decide)
  have e6 : IntKind.u64.wrap ((a3 : Int) + (a4 : Int)) = (y2 : Int) := by rw [← Int.natCast_add, t2]; exact wrU l2
  obtain ⟨a5, ha5⟩ : ∃ a, a = y2 / 16 + y2 := ⟨_, rfl⟩
  rw [← ha5] at t3 y2s
  have e7 : IntKind.u64.wrap ((y2 : Int) / 16 + (y2 : Int)) = (a5 : Int) := by
    rw [show (y2 : Int) / 16 + (y2 : Int) = (a5 : Int) by omega]; exact wrU y2s
  have e8 : bits BinOp.and IntKind.u64 (a5 : Int) 1085102592571150095 = (y3 : Int) := (bits_and_u64_nat a5 1085102592571150095 y2s (by decide)).trans (by rw [t3])
  obtain ⟨h1, h2, h3, h4⟩ := hz
  obtain ⟨y4, hy4⟩ : ∃ a, a = y3 + y3 / 256 := ⟨_, rfl⟩
  rw [← hy4] at h1 h2 h3 h4
  obtain ⟨y5, hy5⟩ : ∃ a, a = y4 + y4 / 65536 := ⟨_, rfl⟩
  rw [← hy5] at h1 h3 h4
  obtain ⟨y6, hy6⟩ : ∃ a, a = y5 + y5 / 4294967296 := ⟨_, rfl⟩
  rw [← hy6] at h1 h4
  have e9 : IntKind.u64.wrap ((y3 : Int) + (y3 : Int) / 256) = (y4 : Int) := by
    rw [show (y3 : Int) + (y3 : Int) / 256 = (y4 : Int) by omega]; exact wrU h2
  have e10 : IntKind.u64.wrap ((y4 : Int) + (y4 : Int) / 65536) = (y5 : Int) := by
    rw [show (y4 : Int) + (y4 : Int) / 65536 = (y5 : Int) by omega]; exact wrU h3
  have e11 : IntKind.u64.wrap ((y5 : Int) + (y5 : Int) / 4294967296) = (y6 : Int) := by
    rw [show (y5 : Int) + (y5 : Int) / 4294967296 = (y6 : Int) by omega]; exact wrU (by omega)
  have e12 : bits BinOp.and IntKind.i64 (wrap64 (y6 : Int)) 127 = ((ds 1 64 x : Nat) : Int) := by rw [and127 h4, h1]
  obtain ⟨d, hd⟩ : ∃ d, d = ds 1 64 x := ⟨_, rfl⟩
  rw [← hd] at e12 ⊢
  clear h1 h2 h3 h4 hy1 hy2 hy3 hy4 hy5 hy6 ha1 ha2 ha3 ha4 ha5 hd hD t1 t2 t3 l1 l2 l3 hs y2s hx
  go_enter Tryd.func91, Tryd.ntmps91
  go_wp2
  go_ret
  exact ⟨rfl, rfl⟩
end Go.Proofs.YtgoolkgjcmdilaaDoor
end
section
namespace Go.Proofs.YtgoolkgjcmdilaaDoor
open Go.RowKit
set_option linter.unusedVariables false
set_option linter.unusedSimpArgs false
attribute [local go_sem] Oper.semAt_some
/-- Of how many of the first n it is true. -/
def cntF (f : Nat → Bool) : Nat → Nat
  | 0 => 0
  | n + 1 => cntF f n + (f n).toNat
theorem cntF_head (f : Nat → Bool) : ∀ n, cntF f (n + 1) = (f 0).toNat + cntF (fun j => f (j + 1)) n
  | 0 => by simp [cntF]
  | n + 1 => by
    show cntF f (n + 1) + (f (n + 1)).toNat = _
    rw [cntF_head f n]
    show _ = (f 0).toNat + (cntF (fun j => f (j + 1)) n + (f (n + 1)).toNat)
    omega
theorem cntF_add (f : Nat → Bool) (m : Nat) : ∀ k, cntF f (m + k) = cntF f m + cntF (fun j => f (m + j)) k
  | 0 => by simp [cntF]
  | k + 1 => by
    show cntF f (m + k) + (f (m + k)).toNat = cntF f m + (cntF (fun j => f (m + j)) k + (f (m + k)).toNat)
    rw [cntF_add f m k]
    omega
theorem cntF_ext {f g : Nat → Bool} : ∀ {n}, (∀ j, j < n → f j = g j) → cntF f n = cntF g n
  | 0, _ => rfl
  | n + 1, h => by
    show cntF f n + (f n).toNat = cntF g n + (g n).toNat
    rw [cntF_ext (fun j hj => h j (by omega)), h n (by omega)]
theorem cntF_none {f : Nat → Bool} {m : Nat} : ∀ k, (∀ j, m ≤ j → f j = false) → cntF f (m + k) = cntF f m
  | 0, _ => rfl
  | k + 1, h => by
    show cntF f (m + k) + (f (m + k)).toNat = _
    rw [cntF_none k h, h (m + k) (by omega)]
    rfl
theorem cntF_le (f : Nat → Bool) : ∀ n, cntF f n ≤ n
  | 0 => Nat.le_refl _
  | n + 1 => by
    show cntF f n + (f n).toNat ≤ n + 1
    have := cntF_le f n
    cases f n <;> simp only [Bool.toNat_true, Bool.toNat_false] <;> omega
theorem ds_cnt : ∀ k x : Nat, ds 1 k x = cntF x.testBit k
  | 0, _ => rfl
  | k + 1, x => by
    have h0 : (x.testBit 0).toNat = x % 2 ^ 1 := by
      rw [Nat.testBit_zero]
      have := Nat.mod_lt x (show 0 < 2 by decide)
      rcases Nat.eq_zero_or_pos (x % 2) with h | h
      · simp [h]
      · have : x % 2 = 1 := by omega
        simp [this]
    have h1 : cntF (fun j => x.testBit (j + 1)) k = cntF (x / 2 ^ 1).testBit k := cntF_ext (fun j _ => by rw [Nat.testBit_succ])
    rw [ds_succ, cntF_head, ds_cnt k, h0, h1]
def countB (B : List Bool) : Nat := cntF (fun j => B.getD j false) B.length
theorem getD_out (B : List Bool) (j : Nat) (h : B.length ≤ j) : B.getD j false = false := by simp [List.getD_eq_getElem?_getD, List.getElem?_eq_none h]
theorem countB_up (B : List Bool) (k : Nat) (h : B.length ≤ k) : cntF (fun j => B.getD j false) k = countB B := by
  obtain ⟨d, rfl⟩ : ∃ d, k = B.length + d := ⟨k - B.length, by omega⟩
  exact cntF_none d (fun j hj => getD_out B j hj)
set_option maxRecDepth 100000 in
set_option maxHeartbeats 1000000 in
theorem count_any (w : World) (b : Nat) (v : Value) (B : List Bool) (ws : List Nat) (h : BitsAt w b v B ws) : Calls Tryd.prog 35 #[.pointer (some ⟨b, 0, none⟩)] w fun e w' => e = .returned (.int .i64 (countB B : Nat)) ∧ w = w' := by
  have HH := Lib.hid h
  obtain ⟨g, cap, rfl, h1, h2, h3, h4, h5⟩ := h.row
  have c1 := h.hd.at 1 (v := .slice (some ⟨g, 0, none⟩) ws.length cap) rfl
  obtain ⟨n, hn⟩ : ∃ n, n = ws.length := ⟨_, rfl⟩
  have hn6 : n ≤ 1024 := by rw [hn, h.len]; have := h.lim; omega
  rw [← hn] at c1
  have H5 := Lib.hid (And.intro h5 hn)
  have hup := countB_up B (64 * n) (by rw [hn, h.len]; omega)
  have HU := Lib.hid hup
  clear h h1 h2 h3 h4 h5 hn hup
  go_enter Tryd.func35, Tryd.ntmps35
  go_wp2_with fail
  go_loopw [3, 13] (fun nv iv wr => ∃ i : Nat, iv = .int .i64 i ∧ i ≤ n ∧ nv = .int .i64 (cntF (fun j => B.getD j false) (64 * i) : Nat) ∧ w = wr) (fun _ iv _ => n - (intOf iv).toNat)
  case atStart => exact ⟨0, rfl, Nat.zero_le _, rfl, rfl⟩
  case round =>
    obtain ⟨i, rfl, hi, rfl, rfl⟩ := hrel
    by_cases hin : i < n
    · have c2 := H5.out.1 i (by rw [← H5.out.2]; exact hin)
      obtain ⟨x, hx⟩ : ∃ x, x = ws.getD i 0 := ⟨_, rfl⟩
      have hxl : x < 18446744073709551616 := by rw [hx]; exact HH.out.word i
      rw [← hx] at c2
      have HO := Lib.hid (ones_any w x hxl)
      have hcn : cntF (fun j => B.getD j false) (64 * i) + ds 1 64 x = cntF (fun j => B.getD j false) (64 * (i + 1)) := by
        rw [Nat.mul_add, Nat.mul_one, cntF_add, ds_cnt]
        congr 1
        refine cntF_ext (fun j hj => ?_)
        rw [hx, HH.out.bits i j hj, Nat.mul_comm]
      obtain ⟨a, ha⟩ : ∃ a, a = cntF (fun j => B.getD j false) (64 * i) := ⟨_, rfl⟩
      have hal : a ≤ 64 * i := by rw [ha]; exact cntF_le _ _
      have hdl : ds 1 64 x ≤ 64 := by rw [ds_cnt]; exact cntF_le _ _
      obtain ⟨d, hd⟩ : ∃ d, d = ds 1 64 x := ⟨_, rfl⟩
      rw [← hd] at hdl hcn HO
      rw [← ha] at hcn ⊢
      have HC := Lib.hid hcn
      have g0 : (0 : Int) ≤ (i : Int) := by omega
      have g1 : (i : Int) < (n : Int) := by omega
      clear hx hxl hcn ha hd
      go_wp2_with fail
      (with_reducible refine (HO.out).mono ?_)
      rintro e w1 ⟨rfl, rfl⟩
      go_wp2_with fail
      refine ⟨⟨i + 1, by go_num, by omega, by rw [← HC.out, Int.natCast_add], by first | rfl | trivial⟩, by simp [intOf]; omega⟩
    · obtain rfl : i = n := by omega
      rw [HU.out]
      go_wp2_with fail
      go_ret
      exact ⟨rfl, rfl⟩
theorem andnot_nat (a b : Nat) (ha : a < 18446744073709551616) (hb : b < 18446744073709551616) : bits BinOp.andNot IntKind.u64 (a : Int) (b : Int) = ((a &&& (18446744073709551615 - b) : Nat) : Int) := by
  have h1 : (BitVec.ofInt 64 (a : Int)).toNat = a := by
    rw [BitVec.ofInt_natCast, BitVec.toNat_ofNat]; exact Nat.mod_eq_of_lt ha
  have h2 : (BitVec.ofInt 64 (b : Int)).toNat = b := by
    rw [BitVec.ofInt_natCast, BitVec.toNat_ofNat]; exact Nat.mod_eq_of_lt hb
  show IntKind.u64.wrap ((BitVec.ofInt 64 (a : Int) &&& ~~~ BitVec.ofInt 64 (b : Int)).toNat : Int) = _
  rw [BitVec.toNat_and, BitVec.toNat_not, h1, h2]
  exact wrU (Nat.lt_of_le_of_lt Nat.and_le_left ha)
theorem not_bit {b j : Nat} (hb : b < 18446744073709551616) (hj : j < 64) : (18446744073709551615 - b).testBit j = !b.testBit j := by
  have h1 : 18446744073709551615 - b = 2 ^ 64 - (b + 1) := by omega
  rw [h1, Nat.testBit_two_pow_sub_succ (by omega)]
  simp [hj]
theorem clear_term {x r : Nat} (hx : x < 18446744073709551616) (h : r < 64) : bits BinOp.andNot IntKind.u64 (x : Int) (IntKind.u64.wrap (2 ^ r)) = ((x &&& (18446744073709551615 - 2 ^ r) : Nat) : Int) := by
  rw [pow_term h, andnot_nat _ _ hx (pow_lt h)]
theorem clear_bit {x r j : Nat} (h : r < 64) (hj : j < 64) : (x &&& (18446744073709551615 - 2 ^ r)).testBit j = if j = r then false else x.testBit j := by
  rw [Nat.testBit_and, not_bit (pow_lt h) hj, Nat.testBit_two_pow]
  by_cases hjr : j = r
  · rw [if_pos hjr, hjr]; simp
  · rw [if_neg hjr, decide_eq_false (fun e => hjr e.symm)]; simp
set_option maxRecDepth 100000 in
set_option maxHeartbeats 1000000 in
theorem bdel_yes (w : World) (b : Nat) (v : Value) (B : List Bool) (ws : List Nat) (i : Nat) (h : BitsAt w b v B ws) (hi : i < B.length) (hB : B.getD i false = true) :
    Calls Tryd.prog 80 #[.pointer (some ⟨b, 0, none⟩), .int .i64 (i : Nat)] w fun e w' => e = .returned (.bool true) ∧ ∃ ws', BitsAt w' b v (B.set i false) ws' ∧ Fr v.ownBlock.toList w w' := by
  have HH := Lib.hid h
  have hH := has_in w b v B ws i h hi
  rw [hB] at hH
  have HHS := Lib.hid hH
  obtain ⟨g, cap, rfl, h1, h2, h3, h4, h5⟩ := h.row
  have c1 := h.hd.at 1 (v := .slice (some ⟨g, 0, none⟩) ws.length cap) rfl
  have hk : i / 64 < ws.length := by rw [h.len]; omega
  have c2 := h5 _ hk
  obtain ⟨n, hn⟩ : ∃ n, n = ws.length := ⟨_, rfl⟩
  rw [← hn] at c1 hk
  obtain ⟨q, hq⟩ : ∃ q, q = i / 64 := ⟨_, rfl⟩
  obtain ⟨r, hr⟩ : ∃ r, r = i % 64 := ⟨_, rfl⟩
  have e1 := q64 (i := i) (Nat.le_trans (Nat.le_of_lt hi) h.lim)
  have e2 := r64 i
  have hr6 : r < 64 := by rw [hr]; exact Nat.mod_lt _ (by decide)
  rw [← hq] at e1
  rw [← hr] at e2
  rw [← hq] at c2 hk
  obtain ⟨x, hx⟩ : ∃ x, x = ws.getD q 0 := ⟨_, rfl⟩
  rw [← hx] at c2
  have g0 : (0 : Int) ≤ (q : Int) := Int.natCast_nonneg q
  have g1 : (q : Int) < (n : Int) := Int.ofNat_lt.2 hk
  have fz := h4 q
  have HN := Lib.hid (And.intro hn (And.intro hq (And.intro hr (And.intro hx (And.intro hk (And.intro hi hB))))))
  clear h h1 h2 h3 h4 h5 hn hq hr hx hk hi hB hH
  go_enter Tryd.func80, Tryd.ntmps80
  go_wp2_with fail
  (with_reducible refine (HHS.out).mono ?_)
  rintro e w1 ⟨rfl, rfl⟩
  go_wp2_with fail
  go_region
  simp only [Exit.then]
  go_wp2
  go_ret
  obtain ⟨hn, hq, hr, hx, hk, hi, hB⟩ := HN.out
  have hxl : x < 18446744073709551616 := by rw [hx]; exact HH.out.word q
  refine ⟨rfl, ws.set (i / 64) (x &&& (18446744073709551615 - 2 ^ r)), ?_, ?_⟩
  · have hu := HH.out.upd (g := g) hi rfl false (x &&& (18446744073709551615 - 2 ^ r)) (Nat.lt_of_le_of_lt Nat.and_le_left hxl) (fun j hj => by rw [clear_bit hr6 hj, ← hr, ← hq, ← hx])
    rw [clear_term hxl hr6, hq]
    exact hu.drew
  · exact ((Fr.refl _ w).setCell _ _ (.inl (by simp [Value.ownBlock]))).drew
set_option maxRecDepth 100000 in
set_option maxHeartbeats 1000000 in
theorem firstF (w : World) (b : Nat) (v : Value) (B : List Bool) (ws : List Nat) (f : Int) (hf0 : f < 0) (k : Nat) (hkz : k = 0) (c : Bool) (h : BitsAt w b v B ws) (hT : DeB w) (hk63 : k ≤ 4611686018427387904) :
    Calls Tryd.prog 92 #[.pointer (some ⟨b, 0, none⟩), .int .i64 f, .bool c] w (FirstP w B k c) := by
  have HH := Lib.hid h
  have HT := Lib.hid hT
  have c0 := h.hd.at 0 (v := .int .i64 B.length) rfl
  obtain ⟨g, cap, rfl, h1, h2, h3, h4, h5⟩ := h.row
  have c1 := h.hd.at 1 (v := .slice (some ⟨g, 0, none⟩) ws.length cap) rfl
  obtain ⟨n, hn⟩ : ∃ n, n = B.length := ⟨_, rfl⟩
  obtain ⟨m, hm⟩ : ∃ m, m = ws.length := ⟨_, rfl⟩
  rw [← hn] at c0
  rw [← hm] at c1
  have H5 := Lib.hid h5
  have HN := Lib.hid (And.intro hn (And.intro hm (show n ≤ 65536 from hn ▸ h.lim)))
  clear h h1 h2 h3 h4 h5 hT hn hm
  go_enter Tryd.func92, Tryd.ntmps92
  go_wp2_with fail
  (with_reducible refine (blive_any _ b _ B ws HH.out).mono ?_)
  rintro e w1 ⟨rfl, rfl⟩
  go_wp2_with fail
  go_loopw [7, 8] (fun iw xw wr => ∃ i : Nat, iw = .int .i64 i ∧ k ≤ i ∧ i ≤ 4611686018427387968 ∧ (∀ j, k ≤ j → j < i → j < n → B.getD j false ≠ c) ∧ w = wr) (fun iw _ _ => n - (intOf iw).toNat)
  case atStart => exact ⟨0, rfl, by omega, by omega, fun j a b _ => absurd b (by omega), rfl⟩
  case round =>
    obtain ⟨i, rfl, hki, hi63, hno, rfl⟩ := hrel
    have HNO := Lib.hid (And.intro hki hno)
    clear hki hno
    by_cases hin : i < n
    · have hiB : i < B.length := by rw [← HN.out.1]; exact hin
      have hk : i / 64 < ws.length := by rw [HH.out.len]; exact div_lt_up hiB
      have c2 := H5.out _ hk
      have hxl := HH.out.word (i / 64)
      obtain ⟨q, hq⟩ : ∃ q, q = i / 64 := ⟨_, rfl⟩
      obtain ⟨r, hr⟩ : ∃ r, r = i % 64 := ⟨_, rfl⟩
      have e1 := d64 i
      have e2 := r64 i
      have hr6 : r < 64 := by rw [hr]; exact Nat.mod_lt _ (by decide)
      rw [← hq] at e1 c2 hk hxl
      rw [← hr] at e2
      rw [← HN.out.2.1] at hk
      obtain ⟨x, hx⟩ : ∃ x, x = ws.getD q 0 := ⟨_, rfl⟩
      rw [← hx] at c2 hxl
      have g0 : (0 : Int) ≤ (q : Int) := Int.natCast_nonneg q
      have g1 : (q : Int) < (m : Int) := Int.ofNat_lt.2 hk
      have g2 : (i : Int) < (n : Int) := Int.ofNat_lt.2 hin
      have HX := Lib.hid (And.intro hq (And.intro hr (And.intro hx (And.intro hxl (And.intro hr6 (And.intro hin hiB))))))
      clear hq hr hx hxl hr6 hk hin hiB
      cases c with
      | true =>
        have hlk := HH.out.look true i
        rw [← HX.out.1, ← HX.out.2.2.1] at hlk
        have hxl := HX.out.2.2.2.1
        have ey : yw x true = x := rfl
        rw [ey] at hlk
        have ez := div_cast x (i % 64)
        rw [← HX.out.2.1] at ez
        obtain ⟨z, hz⟩ : ∃ z, z = x / 2 ^ r := ⟨_, rfl⟩
        rw [← HX.out.2.1, ← hz] at hlk
        rw [← hz] at ez
        have HL := Lib.hid hlk
        clear hlk hxl hz
        by_cases hz0 : z = 0
        · subst hz0
          obtain ⟨p, hp, hp6, hx1⟩ := round_none HN.out.1 HNO.out.1 HNO.out.2 HL.out HX.out.2.2.2.2.2.1 HN.out.2.2
          have o63 := or_term63 (i := i) (Nat.le_trans (Nat.le_of_lt HX.out.2.2.2.2.2.1) HN.out.2.2)
          rw [← hp] at o63
          have HPP := Lib.hid hx1
          clear hp hx1
          go_wp2_with fail
          clear o63 ez e1 e2 g0 g1 g2
          obtain ⟨hq1, hq2, hq3, hq4⟩ := HPP.out
          exact ⟨⟨p + 1, by go_num, hq1, hq2, hq3, by first | rfl | trivial⟩, by simpa [intOf] using hq4⟩
        · obtain ⟨t, ht⟩ := low_ex hz0
          have hz1 := nz_cast hz0
          have HTZ := Lib.hid (tz_any w z t HL.out.zl ht HT.out)
          have hh := round_some HN.out.1 HNO.out.1 HNO.out.2 HL.out ht HX.out.2.2.2.2.2.1 HN.out.2.2
          have HR := Lib.hid hh
          have hb := hh.1
          clear hh ht hz0
          go_wp2_with fail
          (with_reducible refine (HTZ.out).mono ?_)
          rintro e w1 ⟨rfl, rfl⟩
          by_cases hit : i + t < n
          · have hit2 := lt_cast hit
            go_wp2_with fail
            go_ret
            exact ⟨_, rfl, HR.out.2.1 hit, rfl⟩
          · have hit2 := nlt_cast hit
            go_wp2_with fail
            go_ret
            exact ⟨_, rfl, HR.out.2.2 hit, rfl⟩
      | false =>
        have hlk := HH.out.look false i
        rw [← HX.out.1, ← HX.out.2.2.1] at hlk
        have hxl := HX.out.2.2.2.1
        have hsg : IntKind.u64.signed = false := rfl
        have hxo := xor_term hxl
        obtain ⟨y, hy⟩ : ∃ y, y = yw x false := ⟨_, rfl⟩
        rw [← hy] at hlk hxo
        clear hy
        have ez := div_cast y (i % 64)
        rw [← HX.out.2.1] at ez
        obtain ⟨z, hz⟩ : ∃ z, z = y / 2 ^ r := ⟨_, rfl⟩
        rw [← HX.out.2.1, ← hz] at hlk
        rw [← hz] at ez
        have HL := Lib.hid hlk
        clear hlk hxl hz
        by_cases hz0 : z = 0
        · subst hz0
          obtain ⟨p, hp, hp6, hx1⟩ := round_none HN.out.1 HNO.out.1 HNO.out.2 HL.out HX.out.2.2.2.2.2.1 HN.out.2.2
          have o63 := or_term63 (i := i) (Nat.le_trans (Nat.le_of_lt HX.out.2.2.2.2.2.1) HN.out.2.2)
          rw [← hp] at o63
          have HPP := Lib.hid hx1
          clear hp hx1
          go_wp2_with fail
          clear o63 ez e1 e2 g0 g1 g2
          obtain ⟨hq1, hq2, hq3, hq4⟩ := HPP.out
          exact ⟨⟨p + 1, by go_num, hq1, hq2, hq3, by first | rfl | trivial⟩, by simpa [intOf] using hq4⟩
        · obtain ⟨t, ht⟩ := low_ex hz0
          have hz1 := nz_cast hz0
          have HTZ := Lib.hid (tz_any w z t HL.out.zl ht HT.out)
          have hh := round_some HN.out.1 HNO.out.1 HNO.out.2 HL.out ht HX.out.2.2.2.2.2.1 HN.out.2.2
          have HR := Lib.hid hh
          have hb := hh.1
          clear hh ht hz0
          go_wp2_with fail
          (with_reducible refine (HTZ.out).mono ?_)
          rintro e w1 ⟨rfl, rfl⟩
          by_cases hit : i + t < n
          · have hit2 := lt_cast hit
            go_wp2_with fail
            go_ret
            exact ⟨_, rfl, HR.out.2.1 hit, rfl⟩
          · have hit2 := nlt_cast hit
            go_wp2_with fail
            go_ret
            exact ⟨_, rfl, HR.out.2.2 hit, rfl⟩
    · have g1 : ¬ (i : Int) < (n : Int) := by omega
      go_wp2_with fail
      go_ret
      exact ⟨-1, rfl, .inr ⟨rfl, fun j a b => HNO.out.2 j (by omega) (Nat.lt_of_lt_of_le (HN.out.1 ▸ b) (Nat.le_of_not_lt hin)) (HN.out.1 ▸ b)⟩, rfl⟩
/-- What first answers, looking from any number on. -/
theorem firstZ_any (w : World) (b : Nat) (v : Value) (B : List Bool) (ws : List Nat) (k : Int) (c : Bool) (h : BitsAt w b v B ws) (hT : DeB w) :
    Calls Tryd.prog 92 #[.pointer (some ⟨b, 0, none⟩), .int .i64 k, .bool c] w (FirstP w B k.toNat c) := by
  by_cases h2 : k ≤ 4611686018427387904
  · by_cases h3 : k < 0
    · exact firstF w b v B ws k h3 k.toNat (by omega) c h hT (by omega)
    · obtain ⟨m, rfl⟩ : ∃ m : Nat, k = m := ⟨k.toNat, by omega⟩
      rw [Int.toNat_natCast]
      exact first_pos w b v B ws m c h hT (by omega)
  · have HB := Lib.hid (blive_any w b v B ws h)
    have c0 := h.hd.at 0 (v := .int .i64 B.length) rfl
    have hl := h.lim
    have hnl : ¬ k < (B.length : Int) := by omega
    have hk0 : ¬ k < 0 := by omega
    have hno : FirstAt B k.toNat c (-1) := .inr ⟨rfl, fun j a b => by omega⟩
    have HN := Lib.hid hno
    obtain ⟨n, hn⟩ : ∃ n, n = B.length := ⟨_, rfl⟩
    rw [← hn] at c0 hnl hl
    clear h hT hno hn
    go_enter Tryd.func92, Tryd.ntmps92
    go_wp2_with fail
    (with_reducible refine (HB.out).mono ?_)
    rintro e w1 ⟨rfl, rfl⟩
    go_wp2_with fail
    refine wp_loop_rounds 1 ?_
    rw [rounds_succ]
    go_wp2
    go_ret
    exact ⟨-1, rfl, HN.out, rfl⟩
theorem freeZ_any (w : World) (b : Nat) (v : Value) (B : List Bool) (ws : List Nat) (k : Int) (h : BitsAt w b v B ws) (hT : DeB w) : Calls Tryd.prog 37 #[.pointer (some ⟨b, 0, none⟩), .int .i64 k] w (FirstP w B k.toNat false) := by
  have HL := Lib.hid (firstZ_any w b v B ws k false h hT)
  clear h hT
  go_enter Tryd.func37, Tryd.ntmps37
  go_wp2_with fail
  (with_reducible refine (HL.out).mono ?_)
  rintro e w1 ⟨a, rfl, ha, rfl⟩
  have HA := Lib.hid ha
  clear ha
  go_wp2_with fail
  go_ret
  exact ⟨a, rfl, HA.out, rfl⟩
end Go.Proofs.YtgoolkgjcmdilaaDoor
end
