/-
  Plainly: the mean of headings that are all 1 is 1.
-/
import Derived.Test.YtkbcdfniocmamaaMeaA
import Derived.Test.YtkbcdfniocmamaaQuaB
import Derived.Test.YtkbcdfniocmamaaFloT
namespace Flo
open Ieee
/-- The square of a whole number is a number. -/
theorem sq_isNum {N : Nat} (h1 : 1 ≤ N) (hN : N < 2 ^ 50) {x p : Nat} (hx : IsW x N) (hp : Gives (double.mul x x) p) : Num p := by
  obtain ⟨X, L2, kp, l1, l2, x1, x2, x3⟩ := sq_round h1 hN hx hp
  have hn : isNaN p = false := by
    obtain ⟨s, m, e, hr⟩ := hx.1
    rw [mul_form hr hr hp]; exact nan_nearest _ _ _
  have hNN : N * N ≤ (2 ^ 50 - 1) * (2 ^ 50 - 1) := Nat.mul_le_mul (by omega) (by omega)
  have hL : L2 < 100 := by
    rcases Nat.lt_or_ge L2 100 with c | c
    · exact c
    · have := Nat.pow_le_pow_right (n := 2) (by omega) c; omega
  have a1 := U_lt_inf (n := N * N + 2 ^ 47) (by unfold wExp; omega)
  have a2 : 2 ^ (L2 + 1022) ≤ 2 ^ 47 * 2 ^ uExp := by
    rw [← Nat.pow_add]
    exact Nat.pow_le_pow_right (by omega) (by unfold uExp; omega)
  rw [show 2 ^ uExp = U from rfl] at a2
  rw [Nat.add_mul] at a1
  have hi := inf_pos
  refine num_of_key hn ?_ ?_
  · rw [kp]; omega
  · rw [kp]; omega
end Flo
namespace Go.Proofs.Ytkbcdfniocmamaa
open Flo
theorem sum_ones {c : Nat → Nat × Nat} (hc : ∀ k, c k = (4607182418800017408, 0)) : ∀ {k s t : Nat}, k < 2 ^ 50 → SumTo c k s t → IsW s k ∧ IsW t 0
  | 0, s, t, _, h => by rw [h.1, h.2]; exact ⟨isW_zero, isW_zero⟩
  | k + 1, s, t, hk, h => by
    obtain ⟨p, q, h1, h2⟩ := h
    obtain ⟨e1, e2⟩ := sum_ones hc (by omega) h1
    rw [hc k] at h2
    have f1 := isW_add e1 sm_one.1 (by omega) h2.1
    have f2 := isW_add e2 isW_zero (by omega) h2.2
    refine ⟨?_, by simpa using f2⟩
    rw [show ((k + 1 : Nat) : Int) = (k : Int) + 1 by omega]
    exact f1
/-- .. of any number of them, but none. -/
theorem mean_one {c : Nat → Nat × Nat} (hc : ∀ k, c k = (4607182418800017408, 0)) {n r i : Nat} (h1 : 1 ≤ n) (hn : n < 2 ^ 50) (h : MeanR c n r i) : feq r 4607182418800017408 = true ∧ feq i 0 = true := by
  obtain ⟨s, t, hs, hm⟩ := h
  obtain ⟨e1, e2⟩ := sum_ones hc hn hs
  have hz : zB s t = false := by
    unfold zB
    rw [feq_isW e1 isW_zero, decide_eq_false (by omega), finB_num e1.1, finB_num e2.1]
    rfl
  rcases hm with ⟨z, -⟩ | ⟨-, q, l, ⟨p, p2, g1, g2, g3⟩, h2, h3, h4⟩
  · rw [hz] at z; cases z
  · have k1 := sq_isNum h1 hn e1 g1
    have k2 := mul_zero_any e2.1 e2.1 (.inl (by rw [e2.2]; simp)) g2
    have hp := inf_pos
    have k3 := add_nought k1 (num_of_key k2.1 (by rw [k2.2]; omega) (by rw [k2.2]; omega)) k2.2 g3
    have el := sqrt_sq h1 hn e1 g1 k3.1 k3.2 h2
    have l0 : key l ≠ 0 := by
      rw [el.2]
      have hU : (0 : Int) < U := by have := U_pos; omega
      have := Int.mul_pos (show (0 : Int) < (n : Int) by omega) hU
      omega
    have er := isW_div e1.1 el.1 (T := 1) (by rw [e1.2, el.2]; omega) l0 (by decide) h3
    have ei := isW_div e2.1 el.1 (T := 0) (by rw [e2.2]; simp) l0 (by decide) h4
    exact ⟨feq_same er sm_one.1, feq_same ei isW_zero⟩
end Go.Proofs.Ytkbcdfniocmamaa
