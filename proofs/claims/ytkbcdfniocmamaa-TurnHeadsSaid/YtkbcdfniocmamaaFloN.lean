/-
  Floats, plainly: whole numbers; the nearest whole one, the even one of two; what is cut off.
-/
import Derived.Test.YtkbcdfniocmamaaFloE
import GoSem.Core.Float
import Derived.Laws.FloatArith
namespace Flo
open Ieee

/-- One, in units of the least place. -/
def uExp : Nat := 1074
def U : Nat := 2 ^ uExp
theorem U_pos : 0 < U := Nat.two_pow_pos _
theorem pow_U {k : Nat} (h : k = uExp) : 2 ^ k = U := by subst h; rfl
theorem cut_re (s : Bool) (m k : Nat) : 2 * m ≤ 2 * (Toward.even.cut s m k * 2 ^ k) + 2 ^ k ∧ 2 * (Toward.even.cut s m k * 2 ^ k) ≤ 2 * m + 2 ^ k ∧
    (2 * m = 2 * (Toward.even.cut s m k * 2 ^ k) + 2 ^ k → Toward.even.cut s m k % 2 = 0) ∧ (2 * (Toward.even.cut s m k * 2 ^ k) = 2 * m + 2 ^ k → Toward.even.cut s m k % 2 = 0) := by
  have hl : m < 2 ^ (m.log2 + 1) := Nat.lt_log2_self
  unfold Toward.cut
  simp only [Nat.shiftLeft_eq, Nat.one_mul]
  by_cases hk : k ≤ m.log2 + 2
  · rw [Nat.min_eq_left hk]
    have hp : 0 < 2 ^ k := Nat.two_pow_pos _
    generalize 2 ^ k = g at *
    have h1 := Nat.div_add_mod m g
    have h2 := Nat.mod_lt m hp
    have hc : m / g * g = g * (m / g) := Nat.mul_comm _ _
    have hd : (m / g + 1) * g = g * (m / g) + g := by rw [Nat.add_mul, Nat.one_mul, hc]
    generalize m % g = r at *
    generalize hq : m / g = q at *
    generalize g * q = P at *
    by_cases c1 : g < 2 * r
    · have e : (decide (g < 2 * r) || (g == 2 * r && q % 2 == 1)) = true := by simp [c1]
      rw [e]
      simp only [Bool.toNat_true, hd]
      omega
    · by_cases c2 : g = 2 * r
      · by_cases c3 : q % 2 = 1
        · have e : (decide (g < 2 * r) || (g == 2 * r && q % 2 == 1)) = true := by simp [c2, c3]
          rw [e]
          simp only [Bool.toNat_true, hd]
          omega
        · have e : (decide (g < 2 * r) || (g == 2 * r && q % 2 == 1)) = false := by simp [c2]; omega
          rw [e]
          simp only [Bool.toNat_false, Nat.add_zero, hc]
          omega
      · have e : (decide (g < 2 * r) || (g == 2 * r && q % 2 == 1)) = false := by simp [c2]; omega
        rw [e]
        simp only [Bool.toNat_false, Nat.add_zero, hc]
        omega
  · rw [Nat.min_eq_right (by omega)]
    have h3 : 2 ^ (m.log2 + 2) = 2 * 2 ^ (m.log2 + 1) := by rw [Nat.pow_succ]; omega
    have h4 : 2 ^ (m.log2 + 2) ≤ 2 ^ k := Nat.pow_le_pow_right (by omega) (by omega)
    generalize hg : 2 ^ (m.log2 + 2) = g at *
    generalize 2 ^ k = K at *
    have h5 : m / g = 0 := Nat.div_eq_of_lt (by omega)
    have h6 : m % g = m := Nat.mod_eq_of_lt (by omega)
    rw [h5, h6]
    have e : (decide (g < 2 * m) || (g == 2 * m && 0 % 2 == 1)) = false := by simp; omega
    rw [e]
    simp only [Bool.toNat_false, Nat.add_zero, Nat.zero_mul]
    omega
theorem cut_none (w : Toward) (s : Bool) (n : Nat) : w.cut s n 0 = n := by
  unfold Toward.cut
  simp only [Nat.zero_min, Nat.shiftLeft_zero, Nat.div_one, Nat.mod_one]
  cases w <;> simp
theorem cut_zero (s : Bool) (m k : Nat) : Toward.zero.cut s m k = m / 2 ^ k := by
  have hl : m < 2 ^ (m.log2 + 1) := Nat.lt_log2_self
  unfold Toward.cut
  simp only [Nat.shiftLeft_eq, Nat.one_mul, Bool.toNat_false, Nat.add_zero]
  by_cases hk : k ≤ m.log2 + 2
  · rw [Nat.min_eq_left hk]
  · rw [Nat.min_eq_right (by omega)]
    have h3 : 2 ^ (m.log2 + 2) = 2 * 2 ^ (m.log2 + 1) := by rw [Nat.pow_succ]; omega
    have h4 : 2 ^ (m.log2 + 2) ≤ 2 ^ k := Nat.pow_le_pow_right (by omega) (by omega)
    rw [Nat.div_eq_of_lt (by omega), Nat.div_eq_of_lt (by omega)]
/-- N is the whole number nearest to X / U, the even one of two. -/
def IsRE (X N : Int) : Prop := 2 * X ≤ 2 * (N * U) + U ∧ 2 * (N * U) ≤ 2 * X + U ∧ (2 * X = 2 * (N * U) + U → N % 2 = 0) ∧ (2 * (N * U) = 2 * X + U → N % 2 = 0)
theorem IsRE.neg {X N : Int} (h : IsRE X N) : IsRE (-X) (-N) := by
  unfold IsRE at *
  rw [Int.neg_mul]
  generalize (N * (U : Int)) = P at *
  omega
theorem IsRE.unique {X N M : Int} (h : IsRE X N) (k : IsRE X M) : N = M := by
  have hu := U_pos
  unfold IsRE at *
  have key : ∀ {A B : Int}, A < B → A * U + U ≤ B * U := fun {A B} hab => by
    have := Int.mul_le_mul_of_nonneg_right (show A + 1 ≤ B by omega) (show (0 : Int) ≤ U by omega)
    rw [Int.add_mul, Int.one_mul] at this
    exact this
  rcases Int.lt_trichotomy N M with c | c | c
  · have h1 := key c
    have h2 : M = N + 1 := by
      rcases Int.lt_or_le (N + 1) M with d | d
      · exfalso
        have h3 := key d
        have h4 : (N + 1) * (U : Int) = N * U + U := by rw [Int.add_mul, Int.one_mul]
        omega
      · omega
    subst h2
    rw [Int.add_mul, Int.one_mul] at *
    omega
  · exact c
  · have h1 := key c
    have h2 : N = M + 1 := by
      rcases Int.lt_or_le (M + 1) N with d | d
      · exfalso
        have h3 := key d
        have h4 : (M + 1) * (U : Int) = M * U + U := by rw [Int.add_mul, Int.one_mul]
        omega
      · omega
    subst h2
    rw [Int.add_mul, Int.one_mul] at *
    omega
theorem re_nat {X M : Nat} (s : Bool) (h : 2 * X ≤ 2 * (M * U) + U ∧ 2 * (M * U) ≤ 2 * X + U ∧ (2 * X = 2 * (M * U) + U → M % 2 = 0) ∧ (2 * (M * U) = 2 * X + U → M % 2 = 0)) : IsRE ((if s then -1 else 1) * (X : Int)) ((if s then -1 else 1) * (M : Int)) := by
  have h1 : IsRE (X : Int) (M : Int) := by
    unfold IsRE
    rw [show (M : Int) * (U : Int) = ((M * U : Nat) : Int) from (Int.natCast_mul _ _).symm]
    generalize M * U = P at *
    omega
  cases s
  · simpa using h1
  · simpa using h1.neg
/-- Rounded to a whole number. -/
def evenF (x : Nat) : Nat := double.write ((double.read x).integral .even)
theorem U_split {k : Nat} (h : k ≤ 1074) : U = 2 ^ k * 2 ^ (1074 - k) := by
  unfold U uExp
  rw [← Nat.pow_add]
  congr 1
  omega
theorem even_spec {x : Nat} (hx : Num x) : ∃ N : Int, isNaN (evenF x) = false ∧ key (evenF x) = N * U ∧ IsRE (key x) N := by
  obtain ⟨s, m, e, h⟩ := hx
  obtain ⟨h1, h2, h3⟩ := read_num h
  unfold evenF key
  rw [h]
  simp only [Datum.integral, Format.write]
  have hU0 : ((0 : Int) + 1074).toNat = uExp := by unfold uExp; omega
  have hU1 : U = 2 ^ ((0 : Int) + 1074).toNat := (pow_U (by unfold uExp; omega)).symm
  generalize hM : Toward.even.cut s (m <<< e.toNat) (-e).toNat = M
  have hr : Rep (M * 2 ^ ((0 : Int) + 1074).toNat) := by
    by_cases he : 0 ≤ e
    · rw [show (-e).toNat = 0 by omega, cut_none, Nat.shiftLeft_eq] at hM
      rw [← hM, Nat.mul_assoc, ← Nat.pow_add]
      exact rep_mul h2 (by omega)
    · have c := (cut_re s (m <<< e.toNat) (-e).toNat).2.1
      rw [hM, show e.toNat = 0 by omega, Nat.shiftLeft_zero] at c
      have hp : 2 ≤ 2 ^ (-e).toNat := Nat.le_trans (by decide) (Nat.pow_le_pow_right (by omega) (show 1 ≤ (-e).toNat by omega))
      refine rep_mul ?_ (by omega)
      generalize 2 ^ (-e).toNat = g at *
      have : M < m + 1 := by
        rcases Nat.lt_or_ge M (m + 1) with d | d
        · exact d
        · exfalso
          have e1 := Nat.mul_le_mul_right g d
          rw [Nat.add_mul, Nat.one_mul] at e1
          have e2 := Nat.mul_le_mul_left m hp
          omega
      omega
  have hT : (signed s M ((0 : Int) + 1074).toNat).natAbs = M * 2 ^ ((0 : Int) + 1074).toNat := signed_natAbs _ _ _
  refine ⟨(if s then -1 else 1) * (M : Int), nan_nearest _ _ _, ?_, ?_⟩
  · have := key_nearest (T := signed s M ((0 : Int) + 1074).toNat) (z := s) (m := M) (e := 0) (by omega) hT (by rw [hT]; exact hr)
      (fun hn => by
        rw [signed_eq, pow_U hU0] at hn
        cases s
        · exfalso
          rw [if_neg (by decide), Int.one_mul] at hn
          omega
        · rfl)
      (fun hn => by
        rw [signed_eq, pow_U hU0] at hn
        cases s
        · rfl
        · exfalso
          rw [if_pos rfl] at hn
          omega)
    unfold key at this
    rw [this, signed_eq, hU1, Int.mul_assoc, ← Int.natCast_mul]
  · rw [key_num, signed_eq]
    refine re_nat s ?_
    by_cases he : 0 ≤ e
    · rw [show (-e).toNat = 0 by omega, cut_none, Nat.shiftLeft_eq] at hM
      have : m * 2 ^ (e + 1074).toNat = M * U := by
        rw [← hM, show (e + 1074).toNat = e.toNat + uExp by unfold uExp; omega, Nat.pow_add, Nat.mul_assoc, pow_U rfl]
      rw [this]
      have := U_pos
      generalize M * U = P at *
      omega
    · have c := cut_re s (m <<< e.toNat) (-e).toNat
      rw [hM, show e.toNat = 0 by omega, Nat.shiftLeft_zero] at c
      rw [show (e + 1074).toNat = 1074 - (-e).toNat by omega, U_split (k := (-e).toNat) (by omega), ← Nat.mul_assoc M]
      generalize 2 ^ (-e).toNat = g at *
      have hq : 0 < 2 ^ (1074 - (-e).toNat) := Nat.two_pow_pos _
      generalize 2 ^ (1074 - (-e).toNat) = q at *
      obtain ⟨c1, c2, c3, c4⟩ := c
      have k1 := Nat.mul_le_mul_right q c1
      have k2 := Nat.mul_le_mul_right q c2
      rw [Nat.add_mul, Nat.mul_assoc 2, Nat.mul_assoc 2] at k1
      rw [Nat.add_mul, Nat.mul_assoc 2, Nat.mul_assoc 2] at k2
      refine ⟨k1, k2, fun hh => c3 ?_, fun hh => c4 ?_⟩
      · refine Nat.eq_of_mul_eq_mul_right hq ?_
        rw [Nat.add_mul, Nat.mul_assoc 2, Nat.mul_assoc 2]
        exact hh
      · refine Nat.eq_of_mul_eq_mul_right hq ?_
        rw [Nat.add_mul, Nat.mul_assoc 2, Nat.mul_assoc 2]
        exact hh
/-- Cut off. -/
theorem toInt_key {x : Nat} (hx : Num x) : (double.read x).toInt .zero = some (Int.tdiv (key x) U) := by
  obtain ⟨s, m, e, h⟩ := hx
  obtain ⟨h1, h2, h3⟩ := read_num h
  unfold key
  rw [h]
  unfold Datum.toInt
  simp only [Datum.integral]
  congr 1
  rw [key_num, signed_eq, signed_eq, Nat.pow_zero, Nat.mul_one, cut_zero, Nat.shiftLeft_eq]
  have hC : m * 2 ^ e.toNat / 2 ^ (-e).toNat = m * 2 ^ (e + 1074).toNat / U := by
    by_cases he : 0 ≤ e
    · rw [show (-e).toNat = 0 by omega, Nat.pow_zero, Nat.div_one, show (e + 1074).toNat = e.toNat + uExp by unfold uExp; omega, Nat.pow_add, ← Nat.mul_assoc, pow_U rfl]
      exact (Nat.mul_div_cancel _ U_pos).symm
    · rw [show e.toNat = 0 by omega, Nat.pow_zero, Nat.mul_one, show (e + 1074).toNat = 1074 - (-e).toNat by omega, U_split (k := (-e).toNat) (by omega), Nat.mul_div_mul_right _ _ (Nat.two_pow_pos _)]
  rw [hC]
  cases s
  · rw [if_neg (by decide), Int.one_mul, Int.one_mul, ← Int.ofNat_tdiv]
  · rw [if_pos rfl, Int.neg_mul, Int.one_mul, Int.neg_mul, Int.one_mul, Int.neg_tdiv, ← Int.ofNat_tdiv]
theorem toInt_whole {x : Nat} (hx : Num x) {N : Int} (h : key x = N * U) : (double.read x).toInt .zero = some N := by
  rw [toInt_key hx, h, Int.mul_tdiv_cancel _ (by have := U_pos; omega)]
end Flo
