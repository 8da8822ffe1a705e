/-
  Floats, plainly: the nearest whole number, by what lies below and the rest behind it.
-/
import Derived.Test.YtkbcdfniocmamaaFloQ
namespace Flo
open Ieee

/-- Above all numbers that have a part behind the whole. -/
def hugeHi : Nat := 4841369599423283200
def hugeLo : Nat := 14064741636278059008
def hugeB (x : Nat) : Bool := fge x hugeHi || fle x hugeLo
theorem isW_hugeHi : IsW hugeHi 4503599627370496 := by rw [show hugeHi = fl 4503599627370496 by decide]; exact isW_fl (by decide)
theorem isW_hugeLo : IsW hugeLo (-4503599627370496) := by rw [show hugeLo = fl (-4503599627370496) by decide]; exact isW_fl (by decide)
/-- The whole number below. -/
def downN (x : Nat) : Int := key x / (U : Int)
theorem tdiv_floor (X : Int) : Int.tdiv X U * U ≤ X ∧ 0 ≤ X ∧ X < Int.tdiv X U * U + U ∨ X ≤ Int.tdiv X U * U ∧ X < 0 ∧ Int.tdiv X U * U < X + U := by
  have hu : (0 : Int) < U := by have := U_pos; omega
  rcases Int.lt_or_le X 0 with h | h
  · right
    have e : X = - (-X) := by omega
    have h1 : Int.tdiv X U = - ((-X) / U) := by
      rw [e, Int.neg_tdiv, Int.tdiv_eq_ediv_of_nonneg (by omega), Int.neg_neg]
    have f := floor_U (-X)
    rw [h1, Int.neg_mul]
    generalize (-X) / (U : Int) * U = P at *
    omega
  · left
    rw [Int.tdiv_eq_ediv_of_nonneg h]
    have f := floor_U X
    exact ⟨f.1, h, f.2⟩
theorem floor_unique {X N : Int} (h1 : N * U ≤ X) (h2 : X < N * U + U) : X / (U : Int) = N := by
  have f := floor_U X
  have e1 : X / (U : Int) * U < (N + 1) * U := by rw [Int.add_mul, Int.one_mul]; omega
  have e2 : N * U < (X / (U : Int) + 1) * U := by rw [Int.add_mul, Int.one_mul]; omega
  rw [mulU_lt] at e1 e2
  omega
/-- Not huge: a number; its cut value is one of 52 bits. -/
theorem small_num {x : Nat} (hx : isNaN x = false) (h : hugeB x = false) : Num x ∧ -4503599627370496 * (U : Int) < key x ∧ key x < 4503599627370496 * U := by
  unfold hugeB at h
  rw [fge_iff hx isW_hugeHi.1.nan, fle_iff hx isW_hugeLo.1.nan, isW_hugeHi.2, isW_hugeLo.2] at h
  simp only [Bool.or_eq_false_iff, decide_eq_false_iff_not] at h
  have h9 := U_lt_inf (n := 4503599627370496) (Nat.le_trans (show 4503599627370496 ≤ 2 ^ 52 by omega) (Nat.pow_le_pow_right (by omega) (by unfold wExp; omega)))
  rw [Int.natCast_mul] at h9
  have h8 : ((4503599627370496 : Nat) : Int) = 4503599627370496 := rfl
  rw [h8] at h9
  exact ⟨num_of_key hx (by omega) (by omega), by omega, by omega⟩
theorem cut_small {x : Nat} (h1 : -4503599627370496 * (U : Int) < key x) (h2 : key x < 4503599627370496 * U) : -4503599627370496 ≤ Int.tdiv (key x) U ∧ Int.tdiv (key x) U ≤ 4503599627370496 := by
  have f := tdiv_floor (key x)
  have a1 : -4503599627370496 * (U : Int) < (Int.tdiv (key x) U + 1) * U := by
    rw [Int.add_mul, Int.one_mul]
    have := U_pos
    omega
  have a2 : (Int.tdiv (key x) U - 1) * U < 4503599627370496 * (U : Int) := by
    rw [Int.sub_mul, Int.one_mul]
    have := U_pos
    omega
  rw [mulU_lt] at a1 a2
  omega
theorem cut_i64 {x : Nat} (hx : isNaN x = false) (h : hugeB x = false) : Go.floatToIntVal .f64 x .i64 = some (Int.tdiv (key x) U) := by
  obtain ⟨hN, h1, h2⟩ := small_num hx h
  have h3 := cut_small h1 h2
  unfold Go.floatToIntVal
  have : (Go.FloatKind.f64.decode x).toInt .zero = some (Int.tdiv (key x) U) := toInt_key hN
  rw [this]
  exact if_pos ⟨Int.le_trans (by decide) h3.1, Int.le_trans h3.2 (by decide)⟩
theorem down_of {x : Nat} (hx : isNaN x = false) (h : hugeB x = false) : (if fgt (fl (Int.tdiv (key x) U)) x = true then Int.tdiv (key x) U - 1 else Int.tdiv (key x) U) = downN x := by
  obtain ⟨hN, h1, h2⟩ := small_num hx h
  have h3 := cut_small h1 h2
  have f := tdiv_floor (key x)
  unfold downN
  generalize Int.tdiv (key x) U = t at *
  have hw := isW_fl (n := t) (by omega)
  rw [fgt_iff hw.1.nan hx, hw.2]
  by_cases c : key x < t * U
  · rw [if_pos (by simpa using c)]
    refine (floor_unique ?_ ?_).symm
    · rw [Int.sub_mul, Int.one_mul]; omega
    · rw [Int.sub_mul, Int.one_mul]; omega
  · rw [if_neg (by simpa using c)]
    exact (floor_unique (by omega) (by omega)).symm
theorem down_small {x : Nat} (hx : isNaN x = false) (h : hugeB x = false) : -4503599627370496 ≤ downN x ∧ downN x ≤ 4503599627370496 := by
  obtain ⟨hN, h1, h2⟩ := small_num hx h
  have f := floor_U (key x)
  unfold downN
  have a1 : -4503599627370496 * (U : Int) < (key x / (U : Int) + 1) * U := by rw [Int.add_mul, Int.one_mul]; omega
  have a2 : key x / (U : Int) * U < 4503599627370496 * (U : Int) := by omega
  rw [mulU_lt] at a1 a2
  omega
/-- Up from there? -/
def upB (r : Nat) (n : Int) : Bool := fgt r halfF || (feq r halfF && decide (n % 2 ≠ 0))
theorem parts_re {x r : Nat} (hx : isNaN x = false) (h : hugeB x = false) (hr : Gives (double.sub x (fl (downN x))) r) : IsRE (key x) (if upB r (downN x) = true then downN x + 1 else downN x) := by
  have hN := (small_num hx h).1
  have hs := down_small hx h
  obtain ⟨k1, k2⟩ := rest_ok hN (n := downN x) rfl (by omega) hr
  have f := floor_U (key x)
  have hh := key_half
  rw [show key x / (U : Int) = downN x from rfl] at f
  unfold upB
  rw [fgt_iff k1 half_num.nan, feq_iff k1 half_num.nan]
  have hu := U_pos
  generalize downN x = n at *
  rcases k2 with k2 | ⟨rfl, k2, k3⟩
  · unfold IsRE
    by_cases c1 : key halfF < key r
    · rw [if_pos (by simp [c1]), Int.add_mul, Int.one_mul]
      generalize n * (U : Int) = P at *
      omega
    · by_cases c2 : key r = key halfF
      · by_cases c3 : n % 2 = 0
        · rw [if_neg (by simp [c1, c3])]
          generalize n * (U : Int) = P at *
          omega
        · rw [if_pos (by simp [c2]; omega), Int.add_mul, Int.one_mul]
          generalize n * (U : Int) = P at *
          omega
      · rw [if_neg (by simp [c1, c2])]
        generalize n * (U : Int) = P at *
        omega
  · have c : (decide (key halfF < key r) || (decide (key r = key halfF) && decide ((-1 : Int) % 2 ≠ 0))) = true := by
      by_cases c1 : key halfF < key r
      · simp [c1]
      · have : key r = key halfF := by omega
        simp [this]
    rw [if_pos c]
    unfold IsRE
    rw [show (-1 : Int) + 1 = 0 by omega, Int.zero_mul]
    omega
theorem near_far {x : Nat} (hx : isNaN x = false) (h : hugeB x = true) : nearE x = 21 ∧ nearV x = 0 := by
  have hf : farB (evenF x) = true := by
    cases hc : farB (evenF x) with
    | true => rfl
    | false =>
      exfalso
      obtain ⟨N, h1, h2, h3, _⟩ := near_whole hx hc
      unfold hugeB at h
      rw [fge_iff hx isW_hugeHi.1.nan, fle_iff hx isW_hugeLo.1.nan, isW_hugeHi.2, isW_hugeLo.2] at h
      simp only [Bool.or_eq_true, decide_eq_true_eq] at h
      unfold IsRE at h3
      have a1 := mulU_le.2 h1
      have a2 := mulU_le.2 h2
      have := U_pos
      omega
  unfold nearE nearV
  rw [hx, hf]
  exact ⟨rfl, rfl⟩
theorem near_re {x : Nat} (hx : isNaN x = false) (hN : Num x) {N : Int} (h : IsRE (key x) N) : (nearE x = if N < -1073741823 ∨ 1073741823 < N then 21 else 0) ∧ (nearV x = if N < -1073741823 ∨ 1073741823 < N then 0 else N) := by
  obtain ⟨M, h1, h2, h3⟩ := even_spec hN
  obtain rfl := h.unique h3
  have hfar : farB (evenF x) = decide (N < -1073741823 ∨ 1073741823 < N) := by
    unfold farB
    rw [flt_iff h1 isW_lo.1.nan, fgt_iff h1 isW_hi.1.nan, isW_lo.2, isW_hi.2, h2]
    by_cases c1 : N < -1073741823
    · rw [decide_eq_true (mulU_lt.2 c1), decide_eq_true (p := N < -1073741823 ∨ 1073741823 < N) (.inl c1)]; rfl
    · rw [decide_eq_false (fun c => c1 (mulU_lt.1 c))]
      by_cases c2 : 1073741823 < N
      · rw [decide_eq_true (mulU_lt.2 c2), decide_eq_true (p := N < -1073741823 ∨ 1073741823 < N) (.inr c2)]; rfl
      · rw [decide_eq_false (fun c => c2 (mulU_lt.1 c)), decide_eq_false (by omega)]; rfl
  unfold nearE nearV
  rw [hx, hfar]
  by_cases c : N < -1073741823 ∨ 1073741823 < N
  · rw [decide_eq_true c, if_pos c, if_pos c]
    exact ⟨rfl, rfl⟩
  · rw [decide_eq_false c, if_neg c, if_neg c]
    refine ⟨rfl, ?_⟩
    have hw : Num (evenF x) := num_of_whole h1 h2 (by
      have : N.natAbs ≤ 2 ^ 30 := by omega
      exact Nat.le_trans this (Nat.pow_le_pow_right (by omega) (by unfold wExp; omega)))
    rw [toInt_whole hw h2]
    rfl
end Flo
