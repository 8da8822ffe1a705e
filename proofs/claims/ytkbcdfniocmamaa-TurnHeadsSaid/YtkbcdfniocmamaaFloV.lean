/-
  Floats, plainly: ratios near 1; what an operation rounds is near what it stands for.
-/
import Derived.Test.YtkbcdfniocmamaaFloT
import Derived.Test.YtkbcdfniocmamaaQuaA
namespace Flo
open Ieee

/-- The ratio of two neighbouring places, nearly. -/
def PP : Nat := 2 ^ 52
def SS : Nat := 2 ^ 52 + 1
/-- a and b are in a ratio within (SS / PP)^n of 1. -/
def Near (n a b : Nat) : Prop := a * PP ^ n ≤ b * SS ^ n ∧ b * PP ^ n ≤ a * SS ^ n
theorem Near.symm {n a b : Nat} (h : Near n a b) : Near n b a := ⟨h.2, h.1⟩
theorem Near.refl (n a : Nat) : Near n a a := by
  have : PP ^ n ≤ SS ^ n := Nat.pow_le_pow_left (by unfold PP SS; omega) n
  exact ⟨Nat.mul_le_mul_left _ this, Nat.mul_le_mul_left _ this⟩
theorem PP_pos (n : Nat) : 0 < PP ^ n := Nat.pow_pos (by unfold PP; omega)
theorem SS_pos (n : Nat) : 0 < SS ^ n := Nat.pow_pos (by unfold SS; omega)
theorem Near.trans {m n a b c : Nat} (h : Near m a b) (k : Near n b c) : Near (m + n) a c := by
  unfold Near at *
  rw [Nat.pow_add, Nat.pow_add]
  constructor
  · calc a * (PP ^ m * PP ^ n) = a * PP ^ m * PP ^ n := by rw [Nat.mul_assoc]
      _ ≤ b * SS ^ m * PP ^ n := Nat.mul_le_mul_right _ h.1
      _ = b * PP ^ n * SS ^ m := by rw [Nat.mul_right_comm]
      _ ≤ c * SS ^ n * SS ^ m := Nat.mul_le_mul_right _ k.1
      _ = c * (SS ^ m * SS ^ n) := by rw [Nat.mul_assoc, Nat.mul_comm (SS ^ n)]
  · calc c * (PP ^ m * PP ^ n) = c * PP ^ n * PP ^ m := by rw [Nat.mul_assoc, Nat.mul_comm (PP ^ n)]
      _ ≤ b * SS ^ n * PP ^ m := Nat.mul_le_mul_right _ k.2
      _ = b * PP ^ m * SS ^ n := by rw [Nat.mul_right_comm]
      _ ≤ a * SS ^ m * SS ^ n := Nat.mul_le_mul_right _ h.2
      _ = a * (SS ^ m * SS ^ n) := by rw [Nat.mul_assoc]
theorem Near.mul {m n a b c d : Nat} (h : Near m a b) (k : Near n c d) : Near (m + n) (a * c) (b * d) := by
  unfold Near at *
  rw [Nat.pow_add, Nat.pow_add]
  constructor
  · have := Nat.mul_le_mul h.1 k.1
    rw [Nat.mul_mul_mul_comm, Nat.mul_mul_mul_comm b] at this
    exact this
  · have := Nat.mul_le_mul h.2 k.2
    rw [Nat.mul_mul_mul_comm, Nat.mul_mul_mul_comm a] at this
    exact this
theorem Near.add {n a b c d : Nat} (h : Near n a b) (k : Near n c d) : Near n (a + c) (b + d) := by
  unfold Near at *
  rw [Nat.add_mul, Nat.add_mul, Nat.add_mul, Nat.add_mul]
  exact ⟨Nat.add_le_add h.1 k.1, Nat.add_le_add h.2 k.2⟩
theorem Near.cancel {n a b k : Nat} (hk : 0 < k) (h : Near n (a * k) (b * k)) : Near n a b := by
  unfold Near at *
  rw [Nat.mul_right_comm, Nat.mul_right_comm b, Nat.mul_right_comm b k (PP ^ n), Nat.mul_right_comm a k (SS ^ n)] at h
  exact ⟨Nat.le_of_mul_le_mul_right h.1 hk, Nat.le_of_mul_le_mul_right h.2 hk⟩
theorem Near.scale {n a b : Nat} (k : Nat) (h : Near n a b) : Near n (a * k) (b * k) := by
  unfold Near at *
  rw [Nat.mul_right_comm, Nat.mul_right_comm b, Nat.mul_right_comm b k (PP ^ n), Nat.mul_right_comm a k (SS ^ n)]
  exact ⟨Nat.mul_le_mul_right _ h.1, Nat.mul_le_mul_right _ h.2⟩
theorem Near.mono {m n a b : Nat} (h : Near m a b) (hmn : m ≤ n) : Near n a b := by
  obtain ⟨k, rfl⟩ := Nat.le.dest hmn
  exact h.trans (Near.refl k b)
/-- A rounding's bound. -/
theorem Near.of_err {a b : Nat} (h1 : 2 ^ 53 * a ≤ 2 ^ 53 * b + b) (h2 : 2 ^ 53 * b ≤ 2 ^ 53 * a + b) : Near 1 a b := by
  unfold Near PP SS
  rw [Nat.pow_one, Nat.pow_one]
  omega
theorem Near.two {a b : Nat} (h : Near 12 a b) : a ≤ 2 * b ∧ b ≤ 2 * a := by
  unfold Near at h
  have hs : SS ^ 12 ≤ 2 * PP ^ 12 := by unfold SS PP; decide
  have hp := PP_pos 12
  generalize SS ^ 12 = s at *
  generalize PP ^ 12 = p at *
  constructor
  · have := Nat.le_trans h.1 (Nat.mul_le_mul_left b hs)
    rw [Nat.mul_left_comm, ← Nat.mul_assoc] at this
    exact Nat.le_of_mul_le_mul_right this hp
  · have := Nat.le_trans h.2 (Nat.mul_le_mul_left a hs)
    rw [Nat.mul_left_comm, ← Nat.mul_assoc] at this
    exact Nat.le_of_mul_le_mul_right this hp
/-- Eleven roundings: off by fewer than twelve of 2^52. -/
theorem Near.eleven {a b : Nat} (h : Near 11 a b) : 2 ^ 52 * a ≤ 2 ^ 52 * b + 12 * b ∧ 2 ^ 52 * b ≤ 2 ^ 52 * a + 12 * b := by
  unfold Near at h
  have hs : SS ^ 11 * 2 ^ 52 ≤ PP ^ 11 * (2 ^ 52 + 12) := by unfold SS PP; decide
  have hs2 : PP ^ 11 * 2 ^ 52 ≥ SS ^ 11 * (2 ^ 52 - 12) := by unfold SS PP; decide
  have hp := PP_pos 11
  have hq := SS_pos 11
  generalize SS ^ 11 = s at *
  generalize PP ^ 11 = p at *
  constructor
  · have k1 := Nat.mul_le_mul_right (2 ^ 52) h.1
    have k2 := Nat.mul_le_mul_left b hs
    rw [Nat.mul_assoc b s] at k1
    have k3 : a * 2 ^ 52 * p ≤ b * (2 ^ 52 + 12) * p := by
      rw [Nat.mul_right_comm, Nat.mul_assoc b, Nat.mul_comm (2 ^ 52 + 12)]
      exact Nat.le_trans k1 k2
    have := Nat.le_of_mul_le_mul_right k3 hp
    omega
  · have k1 := Nat.mul_le_mul_right (2 ^ 52) h.2
    have k2 := Nat.mul_le_mul_left b hs2
    rw [Nat.mul_assoc b p] at k1
    have k3 : b * (2 ^ 52 - 12) * s ≤ a * 2 ^ 52 * s := by
      rw [Nat.mul_right_comm a, Nat.mul_assoc b, Nat.mul_comm (2 ^ 52 - 12)]
      exact Nat.le_trans k2 k1
    have := Nat.le_of_mul_le_mul_right k3 hq
    omega
/-- A number that is rounded is near itself. -/
theorem near_round (s : Bool) (m : Nat) (e : Int) (he : -1074 ≤ e) (V : Nat) (hV : V = m * 2 ^ (e + 1074).toNat) (hb : V.log2 ≤ 2096) : Near 1 (key (double.nearest s m e)).natAbs V := by
  by_cases hm : m = 0
  · subst hm
    rw [Nat.zero_mul] at hV
    subst hV
    have := nearest_zero s e
    rw [this.2]
    exact Near.refl _ _
  · obtain ⟨K, k1, k2, k3, k4, k5, k6⟩ := round_spec s m e he hm V hV hb
    have ea : (key (double.nearest s m e)).natAbs = K * 2 ^ (V.log2 - 52) := by
      rw [k1]
      cases s
      · rw [if_neg (by decide), Int.one_mul, Int.natAbs_natCast]
      · rw [if_pos rfl, Int.neg_mul, Int.one_mul, Int.natAbs_neg, Int.natAbs_natCast]
    rw [ea]
    by_cases hl : V.log2 ≤ 52
    · rw [k6 hl, show V.log2 - 52 = 0 by omega, Nat.pow_zero, Nat.mul_one]
      exact Near.refl _ _
    · have hVn : V ≠ 0 := by rw [hV]; exact Nat.mul_ne_zero hm (Nat.ne_of_gt (Nat.two_pow_pos _))
      have hq : 2 ^ 52 * 2 ^ (V.log2 - 52) ≤ V := by
        rw [← Nat.pow_add, show 52 + (V.log2 - 52) = V.log2 by omega]
        exact Nat.log2_self_le hVn
      generalize K * 2 ^ (V.log2 - 52) = R at *
      generalize 2 ^ (V.log2 - 52) = Q at *
      exact Near.of_err (by omega) (by omega)
end Flo
