/-
  Plain: how many bits a word has, added up field by field.
-/
import Derived.Test.YtgoolkgjcmdilaaDoorBitC
namespace Go.Proofs.YtgoolkgjcmdilaaDoor
open Go.RowKit
set_option linter.unusedVariables false
set_option linter.unusedSimpArgs false
set_option linter.unnecessarySimpa false

/-- The sum of k digits of n bits each. -/
def ds (n : Nat) : Nat → Nat → Nat
  | 0, _ => 0
  | k + 1, x => x % 2 ^ n + ds n k (x / 2 ^ n)
/-- Each of k digits is at most c. -/
def dg (n c : Nat) : Nat → Nat → Prop
  | 0, _ => True
  | k + 1, x => x % 2 ^ n ≤ c ∧ dg n c k (x / 2 ^ n)
/-- Of k fields of 2 n bits the lower halves. -/
def mk (n : Nat) : Nat → Nat
  | 0 => 0
  | k + 1 => mk n k * 2 ^ (2 * n) + (2 ^ n - 1)
/-- The halves of each field added. -/
def fd (n : Nat) : Nat → Nat → Nat
  | 0, _ => 0
  | k + 1, x => fd n k (x / 2 ^ (2 * n)) * 2 ^ (2 * n) + (x % 2 ^ n + x / 2 ^ n % 2 ^ n)
theorem mk_succ (n k : Nat) : mk n (k + 1) = mk n k * 2 ^ (2 * n) + (2 ^ n - 1) := rfl
theorem fd_succ (n k x : Nat) : fd n (k + 1) x = fd n k (x / 2 ^ (2 * n)) * 2 ^ (2 * n) + (x % 2 ^ n + x / 2 ^ n % 2 ^ n) := rfl
theorem ds_succ (n k x : Nat) : ds n (k + 1) x = x % 2 ^ n + ds n k (x / 2 ^ n) := rfl
theorem and_split (a b r m n : Nat) (hr : r < 2 ^ n) (hm : m < 2 ^ n) : (a * 2 ^ n + r) &&& (b * 2 ^ n + m) = (a &&& b) * 2 ^ n + (r &&& m) := by
  refine Nat.eq_of_testBit_eq fun j => ?_
  have hrm : r &&& m < 2 ^ n := Nat.and_lt_two_pow r hm
  rw [Nat.testBit_and, Nat.mul_comm a, Nat.mul_comm b, Nat.mul_comm (a &&& b), Nat.testBit_two_pow_mul_add a hr, Nat.testBit_two_pow_mul_add b hm, Nat.testBit_two_pow_mul_add (a &&& b) hrm]
  split
  · rw [Nat.testBit_and]
  · rw [Nat.testBit_and]
theorem pow2 (n : Nat) : 2 ^ (2 * n) = 2 ^ n * 2 ^ n := by rw [Nat.two_mul, Nat.pow_add]
theorem low_and (r n : Nat) : r &&& (2 ^ n - 1) = r % 2 ^ n := Nat.and_two_pow_sub_one_eq_mod r n
theorem and_mk (n k x : Nat) : x &&& mk n (k + 1) = ((x / 2 ^ (2 * n)) &&& mk n k) * 2 ^ (2 * n) + x % 2 ^ n := by
  have hp : 0 < 2 ^ n := Nat.pow_pos (by decide)
  have hp2 := pow2 n
  have hle : 2 ^ n ≤ 2 ^ n * 2 ^ n := Nat.le_mul_of_pos_left _ hp
  have h1 : x = x / 2 ^ (2 * n) * 2 ^ (2 * n) + x % 2 ^ (2 * n) := by
    have := Nat.div_add_mod x (2 ^ (2 * n))
    rw [Nat.mul_comm] at this
    omega
  conv => lhs; rw [h1]
  rw [mk_succ, and_split _ _ _ _ _ (Nat.mod_lt _ (by rw [hp2]; exact Nat.mul_pos hp hp)) (by rw [hp2]; omega), low_and, hp2, Nat.mod_mul_right_mod]
theorem div_and_mk (n k x : Nat) : (x / 2 ^ n) &&& mk n (k + 1) = ((x / 2 ^ (2 * n) / 2 ^ n) &&& mk n k) * 2 ^ (2 * n) + x / 2 ^ n % 2 ^ n := by
  rw [and_mk, Nat.div_div_eq_div_mul, Nat.div_div_eq_div_mul, Nat.mul_comm (2 ^ n) (2 ^ (2 * n))]
/-- The two halves, each masked, added. -/
theorem two_and (n : Nat) : ∀ k x : Nat, ((x / 2 ^ n) &&& mk n k) + (x &&& mk n k) = fd n k x
  | 0, x => by simp [mk, fd]
  | k + 1, x => by
    rw [div_and_mk, and_mk]
    have := two_and n k (x / 2 ^ (2 * n))
    rw [fd_succ, ← this, Nat.add_mul]
    omega
theorem fd_ds (n : Nat) : ∀ k x : Nat, ds (2 * n) k (fd n k x) = ds n (2 * k) x
  | 0, x => by simp [ds]
  | k + 1, x => by
    have hp : 0 < 2 ^ n := Nat.pow_pos (by decide)
    have hp2 := pow2 n
    have a1 := Nat.mod_lt x hp
    have a2 := Nat.mod_lt (x / 2 ^ n) hp
    have hs : x % 2 ^ n + x / 2 ^ n % 2 ^ n < 2 ^ (2 * n) := by
      rw [hp2]
      have h2 : 2 ^ n + 2 ^ n ≤ 2 ^ n * 2 ^ n + 1 := by
        rcases Nat.eq_or_lt_of_le (show 1 ≤ 2 ^ n from hp) with h | h
        · rw [← h]; decide
        · have : 2 * 2 ^ n ≤ 2 ^ n * 2 ^ n := Nat.mul_le_mul_right _ h
          omega
      omega
    have e1 : (fd n (k + 1) x) % 2 ^ (2 * n) = x % 2 ^ n + x / 2 ^ n % 2 ^ n := by
      rw [fd_succ, Nat.add_comm, Nat.add_mul_mod_self_right, Nat.mod_eq_of_lt hs]
    have e2 : (fd n (k + 1) x) / 2 ^ (2 * n) = fd n k (x / 2 ^ (2 * n)) := by
      rw [fd_succ, Nat.add_comm, Nat.add_mul_div_right _ _ (Nat.pow_pos (by decide)), Nat.div_eq_of_lt hs, Nat.zero_add]
    show (fd n (k + 1) x) % 2 ^ (2 * n) + ds (2 * n) k ((fd n (k + 1) x) / 2 ^ (2 * n)) = _
    rw [e1, e2, fd_ds n k]
    show _ = ds n (2 * k + 1 + 1) x
    rw [ds_succ, ds_succ, Nat.div_div_eq_div_mul, ← hp2]
    omega
theorem fd_dg (n c : Nat) (hc : c + c < 2 ^ (2 * n)) : ∀ k x : Nat, dg n c (2 * k) x → dg (2 * n) (c + c) k (fd n k x)
  | 0, x, _ => trivial
  | k + 1, x, h => by
    have h' : dg n c (2 * k + 1 + 1) x := h
    obtain ⟨h1, h2, h3⟩ := h'
    have hs : x % 2 ^ n + x / 2 ^ n % 2 ^ n < 2 ^ (2 * n) := by omega
    have e1 : (fd n (k + 1) x) % 2 ^ (2 * n) = x % 2 ^ n + x / 2 ^ n % 2 ^ n := by
      rw [fd_succ, Nat.add_comm, Nat.add_mul_mod_self_right, Nat.mod_eq_of_lt hs]
    have e2 : (fd n (k + 1) x) / 2 ^ (2 * n) = fd n k (x / 2 ^ (2 * n)) := by
      rw [fd_succ, Nat.add_comm, Nat.add_mul_div_right _ _ (Nat.pow_pos (by decide)), Nat.div_eq_of_lt hs, Nat.zero_add]
    refine ⟨by rw [e1]; omega, ?_⟩
    rw [e2]
    refine fd_dg n c hc k _ ?_
    rw [pow2, ← Nat.div_div_eq_div_mul]
    exact h3
/-- Added first and masked then: where no digit's sum passes its field's half. -/
theorem sum_and (n c : Nat) (hc : c + c < 2 ^ n) : ∀ k x : Nat, dg n c (2 * k) x → x < 2 ^ (2 * n * k) → (x / 2 ^ n + x) &&& mk n k = fd n k x
  | 0, x, _, h => by simp [mk, fd]
  | k + 1, x, h, hx => by
    have h' : dg n c (2 * k + 1 + 1) x := h
    obtain ⟨h1, h2, h3⟩ := h'
    have hp : 0 < 2 ^ n := Nat.pow_pos (by decide)
    have hp2 := pow2 n
    have h3' : dg n c (2 * k) (x / 2 ^ (2 * n)) := by rw [hp2, ← Nat.div_div_eq_div_mul]; exact h3
    have hx' : x / 2 ^ (2 * n) < 2 ^ (2 * n * k) := by
      rw [Nat.div_lt_iff_lt_mul (Nat.pow_pos (by decide)), ← Nat.pow_add]
      exact hx
    have ih := sum_and n c hc k _ h3' hx'
    -- x = (y B + l) B² .. : y: the fields above
    obtain ⟨y, hy⟩ : ∃ y, y = x / 2 ^ (2 * n) := ⟨_, rfl⟩
    obtain ⟨l, hl⟩ : ∃ l, l = x % 2 ^ n := ⟨_, rfl⟩
    obtain ⟨m, hm⟩ : ∃ m, m = x / 2 ^ n % 2 ^ n := ⟨_, rfl⟩
    obtain ⟨B, hB⟩ : ∃ B, B = 2 ^ n := ⟨_, rfl⟩
    have e0 : x = y * (B * B) + m * B + l := by
      have q1 := Nat.div_add_mod x B
      have q2 := Nat.div_add_mod (x / B) B
      have q3 : x / B / B = y := by rw [hy, hp2, ← hB, Nat.div_div_eq_div_mul]
      rw [hB] at q1 q2 q3 ⊢
      rw [q3, ← hm] at q2
      rw [← hl] at q1
      rw [← q1, ← q2, Nat.mul_add, Nat.mul_comm (2 ^ n) (2 ^ n * y), Nat.mul_comm (2 ^ n) y, Nat.mul_assoc, Nat.mul_comm (2 ^ n) m]
    have e1 : x / 2 ^ n = y * B + m := by
      have q2 := Nat.div_add_mod (x / B) B
      have q3 : x / B / B = y := by rw [hy, hp2, ← hB, Nat.div_div_eq_div_mul]
      rw [hB] at q2 q3 ⊢
      rw [q3, ← hm, Nat.mul_comm] at q2
      exact q2.symm
    obtain ⟨y1, hy1⟩ : ∃ y1, y1 = y / B := ⟨_, rfl⟩
    obtain ⟨y0, hy0⟩ : ∃ y0, y0 = y % B := ⟨_, rfl⟩
    have ey : y = y1 * B + y0 := by
      have := Nat.div_add_mod y B
      rw [← hy1, ← hy0, Nat.mul_comm] at this
      exact this.symm
    have hy0c : y0 ≤ c ∨ k = 0 := by
      cases k with
      | zero => exact .inr rfl
      | succ k =>
        have h4 : dg n c (2 * k + 1 + 1) (x / 2 ^ (2 * n)) := h3'
        rw [← hy] at h4
        exact .inl (by rw [hy0, hB]; exact h4.1)
    have hy00 : y0 ≤ c := by
      rcases hy0c with q | q
      · exact q
      · rw [q] at hx'
        have : y = 0 := by rw [hy]; simpa using hx'
        rw [hy0, this]; simp
    have e2 : x / 2 ^ n + x = (y1 + y) * (B * B) + ((y0 + m) * B + (m + l)) := by
      rw [e1]
      conv => lhs; rw [e0]
      have e3 : y * B = y1 * (B * B) + y0 * B := by conv => lhs; rw [ey]; rw [Nat.add_mul, Nat.mul_assoc]
      rw [e3, Nat.add_mul, Nat.add_mul]
      omega
    have hlc : l ≤ c := by rw [hl]; exact h1
    have hmc : m ≤ c := by rw [hm]; exact h2
    have hlow : (y0 + m) * B + (m + l) < B * B := by
      have : (y0 + m + 1) * B ≤ B * B := Nat.mul_le_mul_right _ (by rw [hB]; omega)
      rw [Nat.add_mul] at this
      rw [hB] at *
      omega
    have hpB : 0 < B * B := by rw [hB]; exact Nat.mul_pos hp hp
    have e4 : (x / 2 ^ n + x) / 2 ^ (2 * n) = y / 2 ^ n + y := by
      rw [e2, hp2, ← hB, Nat.add_comm, Nat.add_mul_div_right _ _ hpB, Nat.div_eq_of_lt hlow, Nat.zero_add, hy1]
    have e5 : (x / 2 ^ n + x) % 2 ^ n = m + l := by
      rw [e2, ← hB, ← Nat.mul_assoc, Nat.add_comm, Nat.add_mul_mod_self_right, Nat.add_comm, Nat.add_mul_mod_self_right]
      exact Nat.mod_eq_of_lt (by rw [hB]; omega)
    rw [and_mk, e4, e5, fd_succ]
    rw [← hy] at ih
    rw [ih, ← hy, ← hl, ← hm]
    omega
theorem dg_one : ∀ k x : Nat, dg 1 1 k x
  | 0, _ => trivial
  | k + 1, x => ⟨by have := Nat.mod_lt x (show 0 < 2 ^ 1 by decide); omega, dg_one k _⟩
/-- The masks of math/bits. -/
theorem mk1 : mk 1 32 = 6148914691236517205 := by decide +kernel
theorem mk2 : mk 2 16 = 3689348814741910323 := by decide +kernel
theorem mk4 : mk 4 8 = 1085102592571150095 := by decide +kernel
def swar3 (x : Nat) : Nat := fd 4 8 (fd 2 16 (fd 1 32 x))
theorem swar_dg1 (x : Nat) : dg 2 2 32 (fd 1 32 x) := fd_dg 1 1 (by decide) 32 x (dg_one 64 x)
theorem swar_dg2 (x : Nat) : dg 4 4 16 (fd 2 16 (fd 1 32 x)) := fd_dg 2 2 (by decide) 16 _ (swar_dg1 x)
theorem swar_dg3 (x : Nat) : dg 8 8 8 (swar3 x) := fd_dg 4 4 (by decide) 8 _ (swar_dg2 x)
theorem swar_ds (x : Nat) : ds 8 8 (swar3 x) = ds 1 64 x := by
  unfold swar3
  rw [fd_ds 4 8, fd_ds 2 16, fd_ds 1 32]
theorem fd_lt (n : Nat) (hn : 2 ^ n + 2 ^ n ≤ 2 ^ (2 * n) + 1) : ∀ k x : Nat, fd n k x < 2 ^ (2 * n * k)
  | 0, x => by simp [fd]
  | k + 1, x => by
    have hp : 0 < 2 ^ n := Nat.pow_pos (by decide)
    have ih := fd_lt n hn k (x / 2 ^ (2 * n))
    have a1 := Nat.mod_lt x hp
    have a2 := Nat.mod_lt (x / 2 ^ n) hp
    have hm : (fd n k (x / 2 ^ (2 * n)) + 1) * 2 ^ (2 * n) ≤ 2 ^ (2 * n * k) * 2 ^ (2 * n) := Nat.mul_le_mul_right _ ih
    rw [Nat.add_mul, Nat.one_mul] at hm
    rw [fd_succ, Nat.mul_add, Nat.mul_one, Nat.pow_add]
    omega
set_option maxHeartbeats 1000000 in
/-- Eight bytes of at most 8, added up. -/
theorem bytes8 (z : Nat) (h : dg 8 8 8 z) (hz : z < 18446744073709551616) : (((z + z / 256) + (z + z / 256) / 65536) + ((z + z / 256) + (z + z / 256) / 65536) / 4294967296) % 128 = ds 8 8 z ∧
    z + z / 256 < 18446744073709551616 ∧ (z + z / 256) + (z + z / 256) / 65536 < 18446744073709551616 ∧ ((z + z / 256) + (z + z / 256) / 65536) + ((z + z / 256) + (z + z / 256) / 65536) / 4294967296 ≤ 4611686018427387904 := by
  simp only [dg, ds, Nat.reducePow] at h ⊢
  obtain ⟨h0, h1, h2, h3, h4, h5, h6, h7, -⟩ := h
  obtain ⟨z1, e1⟩ : ∃ y, y = z / 256 := ⟨_, rfl⟩
  obtain ⟨z2, e2⟩ : ∃ y, y = z1 / 256 := ⟨_, rfl⟩
  obtain ⟨z3, e3⟩ : ∃ y, y = z2 / 256 := ⟨_, rfl⟩
  obtain ⟨z4, e4⟩ : ∃ y, y = z3 / 256 := ⟨_, rfl⟩
  obtain ⟨z5, e5⟩ : ∃ y, y = z4 / 256 := ⟨_, rfl⟩
  obtain ⟨z6, e6⟩ : ∃ y, y = z5 / 256 := ⟨_, rfl⟩
  obtain ⟨z7, e7⟩ : ∃ y, y = z6 / 256 := ⟨_, rfl⟩
  rw [← e1] at h1 h2 h3 h4 h5 h6 h7 ⊢
  rw [← e2] at h2 h3 h4 h5 h6 h7 ⊢
  rw [← e3] at h3 h4 h5 h6 h7 ⊢
  rw [← e4] at h4 h5 h6 h7 ⊢
  rw [← e5] at h5 h6 h7 ⊢
  rw [← e6] at h6 h7 ⊢
  rw [← e7] at h7 ⊢
  obtain ⟨a0, q0⟩ : ∃ a, a = z % 256 := ⟨_, rfl⟩
  rw [← q0] at h0 ⊢
  have g0 : z = 256 * z1 + a0 := by omega
  obtain ⟨a1, q1⟩ : ∃ a, a = z1 % 256 := ⟨_, rfl⟩
  rw [← q1] at h1 ⊢
  have g1 : z1 = 256 * z2 + a1 := by omega
  obtain ⟨a2, q2⟩ : ∃ a, a = z2 % 256 := ⟨_, rfl⟩
  rw [← q2] at h2 ⊢
  have g2 : z2 = 256 * z3 + a2 := by omega
  obtain ⟨a3, q3⟩ : ∃ a, a = z3 % 256 := ⟨_, rfl⟩
  rw [← q3] at h3 ⊢
  have g3 : z3 = 256 * z4 + a3 := by omega
  obtain ⟨a4, q4⟩ : ∃ a, a = z4 % 256 := ⟨_, rfl⟩
  rw [← q4] at h4 ⊢
  have g4 : z4 = 256 * z5 + a4 := by omega
  obtain ⟨a5, q5⟩ : ∃ a, a = z5 % 256 := ⟨_, rfl⟩
  rw [← q5] at h5 ⊢
  have g5 : z5 = 256 * z6 + a5 := by omega
  obtain ⟨a6, q6⟩ : ∃ a, a = z6 % 256 := ⟨_, rfl⟩
  rw [← q6] at h6 ⊢
  have g6 : z6 = 256 * z7 + a6 := by omega
  have g7 : z7 ≤ 8 := by omega
  have m7 : z7 % 256 = z7 := by omega
  rw [m7]
  clear h7 m7 e1 e2 e3 e4 e5 e6 e7 q0 q1 q2 q3 q4 q5 q6
  have f2 : (z + z1) / 65536 = z2 + z3 := by clear g3 g4 g5 g6 g7; omega
  rw [f2]
  have k0 : z = 4294967296 * z4 + (16777216 * a3 + 65536 * a2 + 256 * a1 + a0) := by omega
  have k1 : z1 = 4294967296 * z5 + (16777216 * a4 + 65536 * a3 + 256 * a2 + a1) := by omega
  have k2 : z2 = 4294967296 * z6 + (16777216 * a5 + 65536 * a4 + 256 * a3 + a2) := by omega
  have k3 : z3 = 4294967296 * z7 + (16777216 * a6 + 65536 * a5 + 256 * a4 + a3) := by omega
  have f3 : (z + z1 + (z2 + z3)) / 4294967296 = z4 + z5 + (z6 + z7) := by clear g0 g1 g2 g3 g4 g5 g6 f2; omega
  rw [f3]
  clear f2 f3 k0 k1 k2 k3
  refine ⟨by omega, by omega, by omega, by omega⟩
end Go.Proofs.YtgoolkgjcmdilaaDoor
