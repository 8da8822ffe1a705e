/-
  Floats, plainly: which are finite; squares; sizes.
-/
import Derived.Test.YtkbcdfniocmamaaFloC
namespace Flo
open Ieee

theorem nan_mod (x : Nat) : isNaN (x % 2 ^ 63) = isNaN x := by
  unfold isNaN
  rw [read_def, read_def]
  have h1 : x % 2 ^ 63 % 2 ^ 63 = x % 2 ^ 63 := Nat.mod_mod _ _
  rw [h1]
  split
  · rfl
  · split
    · rfl
    · split <;> rfl
theorem key_mod (x : Nat) : key (x % 2 ^ 63) = ((key x).natAbs : Int) := by
  unfold key
  rw [read_def, read_def]
  have h1 : x % 2 ^ 63 % 2 ^ 63 = x % 2 ^ 63 := Nat.mod_mod _ _
  have h2 : (x % 2 ^ 63 / 2 ^ 63 % 2 == 1) = false := by rw [beq_eq_false_iff_ne]; omega
  rw [h1, h2]
  split
  · rw [key_num, key_num, signed_natAbs, signed_eq]; simp
  · split
    · rw [key_num, key_num, signed_natAbs, signed_eq]; simp
    · split
      · rw [key_inf, key_inf]
        have := inf_pos
        generalize inf = B at *
        cases (x / 2 ^ 63 % 2 == 1) <;> simp <;> omega
      · rfl
/-- The greatest finite number, and its opposite. -/
def maxF : Nat := 9218868437227405311
def minF : Nat := 18442240474082181119
theorem read_maxF : double.read maxF = .number false (2 ^ 53 - 1) 971 := by decide
theorem read_minF : double.read minF = .number true (2 ^ 53 - 1) 971 := by decide
theorem nan_maxF : isNaN maxF = false := by unfold isNaN; rw [read_maxF]; rfl
theorem nan_minF : isNaN minF = false := by unfold isNaN; rw [read_minF]; rfl
theorem key_maxF : key maxF < inf := by
  unfold key
  rw [read_maxF]
  exact (dkey_bd ⟨by omega, lt_big (by omega) (by omega)⟩).2
theorem key_minF : key minF = - key maxF := by
  unfold key
  rw [read_maxF, read_minF, key_num, key_num, ← signed_opp]
  rfl
/-- Finite. -/
def finB (x : Nat) : Bool := fle x maxF && fge x minF
theorem finB_nan {x : Nat} (h : isNaN x = true) : finB x = false := by unfold finB; rw [fle_nan (.inl h)]; rfl
theorem finB_iff {x : Nat} (h : isNaN x = false) : finB x = decide (key x ≤ key maxF ∧ - key maxF ≤ key x) := by
  unfold finB
  rw [fle_iff h nan_maxF, fge_iff h nan_minF, key_minF]
  by_cases h1 : key x ≤ key maxF <;> by_cases h2 : -key maxF ≤ key x <;> simp [h1, h2]
theorem finB_not {x : Nat} (h : finB x = true) : isNaN x = false := by
  cases hn : isNaN x with
  | false => rfl
  | true => rw [finB_nan hn] at h; cases h
/-- Infinite, to either side: above the greatest one in size. -/
def infB (x : Nat) : Bool := fgt (x % 2 ^ 63) maxF
theorem infB_iff {x : Nat} (h : isNaN x = false) : infB x = !finB x := by
  unfold infB
  rw [fgt_iff (by rw [nan_mod]; exact h) nan_maxF, key_mod, finB_iff h]
  by_cases h1 : key x ≤ key maxF ∧ -key maxF ≤ key x
  · rw [decide_eq_true h1, decide_eq_false (by omega)]; rfl
  · rw [decide_eq_false h1, decide_eq_true (by omega)]; rfl
theorem infB_nan {x : Nat} (h : isNaN x = true) : infB x = false := fgt_nan (.inl (by rw [nan_mod]; exact h))
/-- As package turn says it. -/
theorem fin_turn (x : Nat) : (feq x x && !infB x) = finB x := by
  rw [feq_self]
  cases h : isNaN x with
  | true => rw [finB_nan h]; rfl
  | false => rw [infB_iff h]; simp
theorem fin_number {x : Nat} (h : finB x = true) : ∃ s m e, double.read x = .number s m e := by
  have hn := finB_not h
  rw [finB_iff hn] at h
  have h := of_decide_eq_true h
  have hk := key_maxF
  cases hr : double.read x with
  | number s m e => exact ⟨s, m, e, rfl⟩
  | infinity s =>
    exfalso
    have : key x = if s then -inf else inf := by unfold key; rw [hr]; rfl
    cases s <;> simp at this <;> omega
  | nan s t => unfold isNaN at hn; rw [hr] at hn; simp [Datum.isNaN] at hn
/-- Not below nought, no NaN: what a square is. -/
def NN (x : Nat) : Prop := (∃ m e, double.read x = .number false m e) ∨ double.read x = .infinity false
theorem NN.nan {x : Nat} (h : NN x) : isNaN x = false := by
  unfold isNaN
  rcases h with ⟨m, e, h⟩ | h <;> rw [h] <;> rfl
theorem nn_word (r : Nat) (h : r ≤ 2047 * 2 ^ 52) : NN (double.word false r) := by
  unfold NN
  rw [read_word false r h]
  split
  · exact .inl ⟨_, _, rfl⟩
  · split
    · exact .inl ⟨_, _, rfl⟩
    · exact .inr rfl
theorem nn_nearest (m : Nat) (e : Int) : NN (double.nearest false m e) := by
  unfold Format.nearest
  simp only
  split
  · exact nn_word 0 (by omega)
  · rw [infRung_d]
    exact nn_word _ (Nat.min_le_right _ _)
theorem nn_square {x r : Nat} (hx : finB x = true) (h : Gives (double.mul x x) r) : NN r := by
  obtain ⟨s, m, e, hr⟩ := fin_number hx
  unfold Format.mul at h
  rw [hr] at h
  have h : r = double.nearest (s ^^ s) (m * m) (e + e) := h
  rw [h, Bool.xor_self]
  exact nn_nearest _ _
theorem nan_sum {x y r : Nat} (hx : NN x) (hy : NN y) (h : Gives (double.add x y) r) : isNaN r = false := by
  unfold Format.add at h
  rcases hx with ⟨m, e, hx⟩ | hx <;> rcases hy with ⟨n, f, hy⟩ | hy <;> rw [hx, hy] at h
  · have h : r = double.nearest _ _ _ := h
    rw [h]; exact nan_nearest _ _ _
  · have h : r = double.write (.infinity false) := h
    rw [h]; exact nan_write rfl
  · have h : r = double.write (.infinity false) := h
    rw [h]; exact nan_write rfl
  · have h : r = double.write (.infinity false) := h
    rw [h]; exact nan_write rfl
end Flo
