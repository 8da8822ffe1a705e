/-
  Floats, plainly: whole numbers as floats; the nearest whole number of the lattice.
-/
import Derived.Test.YtkbcdfniocmamaaFloN
import Derived.Laws.Cover2
namespace Flo
open Ieee

/-- A whole number as a float. -/
abbrev fl (n : Int) : Nat := Go.floatOfInt .f64 n
theorem fl_eq (n : Int) : fl n = double.nearest (decide (n < 0)) n.natAbs 0 := rfl
theorem rep_whole {n : Nat} (h : n ≤ 2 ^ 53) : Rep (n * U) := by
  rcases Nat.lt_or_eq_of_le h with h | h
  · exact rep_mul h (by unfold uExp; omega)
  · rw [h, show 2 ^ 53 * U = 1 * 2 ^ (53 + uExp) by unfold U; rw [Nat.pow_add, Nat.one_mul]]
    exact rep_mul (by omega) (by unfold uExp; omega)
/-- A bound for whole numbers. -/
def wExp : Nat := 100
theorem U_lt_inf {n : Nat} (h : n ≤ 2 ^ wExp) : ((n * U : Nat) : Int) < inf := by
  unfold inf big U
  have h1 : n * 2 ^ uExp < 2 ^ bigE := by
    refine lt_gen (p := wExp + 1) (q := uExp) ?_ (Nat.le_refl _) (by unfold wExp uExp bigE; omega)
    exact Nat.lt_of_le_of_lt h (Nat.pow_lt_pow_right (by omega) (by omega))
  omega
theorem num_of_key {x : Nat} (h : isNaN x = false) (h1 : -inf < key x) (h2 : key x < inf) : Num x := by
  rcases num_or h with h | ⟨s, h⟩
  · exact h
  · exfalso
    unfold key at h1 h2
    rw [h, key_inf] at h1 h2
    cases s <;> simp at h1 h2
theorem mul_U_abs (n : Int) : (n * (U : Int)).natAbs = n.natAbs * U := by rw [Int.natAbs_mul, Int.natAbs_natCast]
theorem num_of_whole {x : Nat} {n : Int} (h : isNaN x = false) (hk : key x = n * U) (hn : n.natAbs ≤ 2 ^ wExp) : Num x := by
  have h1 := U_lt_inf hn
  have h2 := mul_U_abs n
  exact num_of_key h (by omega) (by omega)
/-- Whole: it stands for n. -/
def IsW (x : Nat) (n : Int) : Prop := Num x ∧ key x = n * U
theorem isW_fl {n : Int} (h : n.natAbs ≤ 2 ^ 53) : IsW (fl n) n := by
  have hu := U_pos
  have hn : isNaN (fl n) = false := nan_nearest _ _ _
  have hk : key (fl n) = n * U := by
    rw [fl_eq]
    refine key_nearest (T := n * U) (by omega) (by rw [mul_U_abs, ← pow_U (k := ((0 : Int) + 1074).toNat) (by unfold uExp; omega)]) (by rw [mul_U_abs]; exact rep_whole h) (fun hh => ?_) (fun hh => ?_)
    · refine decide_eq_true ?_
      rcases Int.lt_or_le n 0 with c | c
      · exact c
      · have := Int.mul_nonneg c (show (0 : Int) ≤ U by omega); omega
    · refine decide_eq_false ?_
      intro c
      have := Int.mul_nonneg (show 0 ≤ -n by omega) (show (0 : Int) ≤ U by omega)
      rw [Int.neg_mul] at this
      omega
  exact ⟨num_of_whole hn hk (Nat.le_trans h (Nat.pow_le_pow_right (by omega) (by unfold wExp; omega))), hk⟩
theorem mulU_le {a b : Int} : a * (U : Int) ≤ b * U ↔ a ≤ b := by
  have hu : (0 : Int) < U := by have := U_pos; omega
  exact ⟨fun h => Int.le_of_mul_le_mul_right h hu, fun h => Int.mul_le_mul_of_nonneg_right h (by omega)⟩
theorem mulU_lt {a b : Int} : a * (U : Int) < b * U ↔ a < b := by
  have := @mulU_le b a
  omega
theorem mulU_eq {a b : Int} : a * (U : Int) = b * U ↔ a = b := by
  have := @mulU_le b a
  have := @mulU_le a b
  omega
/-- The nearest whole number, as package real tells it. -/
def loF : Nat := 13965662444467519488
def hiF : Nat := 4742290407612743680
def farB (r : Nat) : Bool := flt r loF || fgt r hiF
def nearE (x : Nat) : Int := if isNaN x = true then 20 else if farB (evenF x) = true then 21 else 0
def nearV (x : Nat) : Int := if isNaN x = true then 0 else if farB (evenF x) = true then 0 else ((double.read (evenF x)).toInt .zero).getD 0
theorem isW_lo : IsW loF (-1073741823) := by rw [show loF = fl (-1073741823) by decide]; exact isW_fl (by decide)
theorem isW_hi : IsW hiF 1073741823 := by rw [show hiF = fl 1073741823 by decide]; exact isW_fl (by decide)
theorem even_nan {x : Nat} (h : isNaN x = false) : isNaN (evenF x) = false := by
  unfold evenF
  refine nan_write ?_
  unfold isNaN at h
  cases hr : double.read x with
  | number s m e => rfl
  | infinity s => rfl
  | nan s t => rw [hr] at h; exact h
/-- Where it is not far: a whole number. -/
theorem near_whole {x : Nat} (hx : isNaN x = false) (h : farB (evenF x) = false) : ∃ N : Int, -1073741823 ≤ N ∧ N ≤ 1073741823 ∧ IsRE (key x) N ∧ Num x ∧ IsW (evenF x) N ∧ (double.read (evenF x)).toInt .zero = some N := by
  have hn := even_nan hx
  unfold farB at h
  rw [flt_iff hn isW_lo.1.nan, fgt_iff hn isW_hi.1.nan, isW_lo.2, isW_hi.2] at h
  simp only [Bool.or_eq_false_iff, decide_eq_false_iff_not] at h
  rcases num_or hx with hN | ⟨s, hs⟩
  · obtain ⟨N, h1, h2, h3⟩ := even_spec hN
    rw [h2] at h
    rw [mulU_lt, mulU_lt] at h
    have hw : Num (evenF x) := num_of_whole h1 h2 (by
      have : N.natAbs ≤ 2 ^ 30 := by omega
      exact Nat.le_trans this (Nat.pow_le_pow_right (by omega) (by unfold wExp; omega)))
    exact ⟨N, by omega, by omega, h3, hN, ⟨hw, h2⟩, toInt_whole hw h2⟩
  · exfalso
    have hk : key (evenF x) = (if s then -1 else 1) * inf := by
      unfold evenF
      rw [hs]
      show key (double.word s double.infRung) = _
      rw [infRung_d]
      exact (key_word_inf s).2
    rw [hk] at h
    have h9 := U_lt_inf (n := 1073741823) (Nat.le_trans (show 1073741823 ≤ 2 ^ 30 by omega) (Nat.pow_le_pow_right (by omega) (by unfold wExp; omega)))
    rw [Int.natCast_mul] at h9
    have h8 : ((1073741823 : Nat) : Int) = 1073741823 := rfl
    rw [h8] at h9
    generalize inf = B at *
    generalize (U : Int) = u at *
    cases s <;> simp at h <;> omega
theorem near_i32 {x : Nat} (hx : isNaN x = false) (h : farB (evenF x) = false) : Go.floatToIntVal .f64 (evenF x) .i32 = some (nearV x) := by
  obtain ⟨N, h1, h2, _, _, _, h5⟩ := near_whole hx h
  unfold nearV
  rw [if_neg (by rw [hx]; decide), if_neg (by rw [h]; decide), h5]
  unfold Go.floatToIntVal
  have : (Go.FloatKind.f64.decode (evenF x)).toInt .zero = some N := h5
  rw [this]
  exact if_pos ⟨Int.le_trans (by decide) h1, Int.le_trans h2 (by decide)⟩
end Flo
