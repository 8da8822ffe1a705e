/-
  Floats, plainly: what is rounded, and how far it is off; the nearest whole number by its two parts.
-/
import Derived.Test.YtkbcdfniocmamaaFloP
namespace Flo
open Ieee

/-- What a number is rounded to. V: the number in units of the least place. -/
theorem round_spec (s : Bool) (m : Nat) (e : Int) (he : -1074 ≤ e) (hm : m ≠ 0) (V : Nat) (hV : V = m * 2 ^ (e + 1074).toNat) (hb : V.log2 ≤ 2096) :
    ∃ K, key (double.nearest s m e) = (if s then -1 else 1) * ((K * 2 ^ (V.log2 - 52) : Nat) : Int) ∧ K ≤ 2 ^ 53 ∧ (0 < V.log2 - 52 → 2 ^ 52 ≤ K) ∧
      2 * V ≤ 2 * (K * 2 ^ (V.log2 - 52)) + 2 ^ (V.log2 - 52) ∧ 2 * (K * 2 ^ (V.log2 - 52)) ≤ 2 * V + 2 ^ (V.log2 - 52) ∧ (V.log2 ≤ 52 → K = V) := by
  have hVn : V ≠ 0 := by rw [hV]; exact Nat.mul_ne_zero hm (Nat.ne_of_gt (Nat.two_pow_pos _))
  have hlog : V.log2 = m.log2 + (e + 1074).toNat := by rw [hV]; exact log2_mul_pow m _ hm
  have hlo := Nat.log2_self_le hVn
  have hhi : V < 2 ^ (V.log2 + 1) := Nat.lt_log2_self
  unfold Format.nearest
  simp only
  rw [if_neg hm, infRung_d, binade_d, leastPlace_d]
  rw [show double.fractionBits = 52 from rfl]
  obtain ⟨q, hq⟩ : ∃ q, q = V.log2 - 52 := ⟨_, rfl⟩
  rw [← hq]
  rw [show max (e + (m.log2 : Int) - ((52 : Nat) : Int)) (-1074) = (q : Int) - 1074 by omega, show ((q : Int) - 1074 - -1074).toNat = q by omega]
  generalize hK : Toward.even.cut s (m <<< (e - ((q : Int) - 1074)).toNat) ((q : Int) - 1074 - e).toNat = K
  have hk : (2 * V ≤ 2 * (K * 2 ^ q) + 2 ^ q ∧ 2 * (K * 2 ^ q) ≤ 2 * V + 2 ^ q) ∧ (q = 0 → K = V) := by
    by_cases hc : (q : Int) - 1074 ≤ e
    · rw [show ((q : Int) - 1074 - e).toNat = 0 by omega, cut_none, Nat.shiftLeft_eq] at hK
      have e1 : V = K * 2 ^ q := by
        rw [hV, ← hK, Nat.mul_assoc, ← Nat.pow_add]
        congr 2
        omega
      rw [← e1]
      have := Nat.two_pow_pos q
      refine ⟨by omega, fun h => ?_⟩
      rw [h, Nat.pow_zero, Nat.mul_one] at e1
      exact e1.symm
    · have c := cut_re s m ((q : Int) - 1074 - e).toNat
      rw [show (e - ((q : Int) - 1074)).toNat = 0 by omega, Nat.shiftLeft_zero] at hK
      rw [hK] at c
      have e3 : q = ((q : Int) - 1074 - e).toNat + (e + 1074).toNat := by omega
      refine ⟨?_, fun h => by omega⟩
      generalize ((q : Int) - 1074 - e).toNat = g at *
      rw [hV, e3, Nat.pow_add, ← Nat.mul_assoc K]
      have hp := Nat.two_pow_pos (e + 1074).toNat
      generalize 2 ^ (e + 1074).toNat = P at *
      have k1 := Nat.mul_le_mul_right P c.1
      have k2 := Nat.mul_le_mul_right P c.2.1
      rw [Nat.add_mul, Nat.mul_assoc 2, Nat.mul_assoc 2] at k1 k2
      exact ⟨k1, k2⟩
  obtain ⟨⟨h1, h2⟩, h3⟩ := hk
  have hp := Nat.two_pow_pos q
  have hKu : K ≤ 2 ^ 53 := by
    rcases Nat.lt_or_ge (2 ^ 53) K with h | h
    · exfalso
      have k1 := Nat.mul_le_mul_right (2 ^ q) h
      rw [Nat.succ_mul] at k1
      have k2 : V < 2 ^ 53 * 2 ^ q := by
        rw [← Nat.pow_add]
        exact Nat.lt_of_lt_of_le hhi (Nat.pow_le_pow_right (by omega) (by omega))
      omega
    · exact h
  have hKl : 0 < q → 2 ^ 52 ≤ K := fun h0 => by
    rcases Nat.lt_or_ge K (2 ^ 52) with h | h
    · exfalso
      have k1 := Nat.mul_le_mul_right (2 ^ q) h
      rw [Nat.succ_mul] at k1
      have k2 : 2 ^ 52 * 2 ^ q ≤ V := by
        rw [← Nat.pow_add]
        exact Nat.le_trans (Nat.pow_le_pow_right (by omega) (by omega)) hlo
      omega
    · exact h
  have hr : q * 2 ^ 52 + K < 2047 * 2 ^ 52 := by
    have : q ≤ 2044 := by omega
    omega
  rw [Nat.min_eq_left (by omega), (key_word s _ hr).2, rungVal_eq q _ hKu hKl]
  exact ⟨K, rfl, hKu, hKl, h1, h2, fun h => h3 (by omega)⟩
/-- No power of two is passed. -/
theorem round_above {V K p : Nat} (hv : 2 ^ p ≤ V) (h1 : 0 < V.log2 - 52 → 2 ^ 52 ≤ K) (h2 : V.log2 ≤ 52 → K = V) : 2 ^ p ≤ K * 2 ^ (V.log2 - 52) := by
  have hVn : V ≠ 0 := by have := Nat.two_pow_pos p; omega
  by_cases h : V.log2 ≤ 52
  · rw [h2 h, show V.log2 - 52 = 0 by omega, Nat.pow_zero, Nat.mul_one]
    exact hv
  · have k := Nat.mul_le_mul_right (2 ^ (V.log2 - 52)) (h1 (by omega))
    rw [← Nat.pow_add] at k
    exact Nat.le_trans (Nat.pow_le_pow_right (by omega) (show p ≤ 52 + (V.log2 - 52) by have := (Nat.le_log2 hVn).2 hv; omega)) k
/-- A sum, as it is written. -/
theorem sum_written {x y r : Nat} (hx : Num x) (hy : Num y) (h : Gives (double.add x y) r) : ∃ z m e, -1074 ≤ e ∧ r = double.nearest z m e ∧ (key x + key y).natAbs = m * 2 ^ (e + 1074).toNat ∧ (key x + key y < 0 → z = true) ∧ (0 < key x + key y → z = false) := by
  obtain ⟨s, m, i, hx⟩ := hx
  obtain ⟨t, n, j, hy⟩ := hy
  have hi := (read_num hx).1
  have hj := (read_num hy).1
  unfold Format.add at h
  unfold key
  rw [hx, hy] at h ⊢
  have h : r = double.nearest (if signed s m (i - min i j).toNat + signed t n (j - min i j).toNat = 0 then s && t else decide (signed s m (i - min i j).toNat + signed t n (j - min i j).toNat < 0)) (signed s m (i - min i j).toNat + signed t n (j - min i j).toNat).natAbs (min i j) := h
  refine ⟨_, _, _, ?_, h, ?_⟩
  · omega
  rw [← signed_key (s := s) (m := m) (i := i) (base := min i j) (by omega) (by omega), ← signed_key (s := t) (m := n) (i := j) (base := min i j) (by omega) (by omega), ← Int.add_mul]
  generalize signed s m (i - min i j).toNat + signed t n (j - min i j).toNat = T
  have hp : (0 : Int) < ((2 ^ (min i j + 1074).toNat : Nat) : Int) := Int.natCast_pos.2 (Nat.two_pow_pos _)
  refine ⟨by rw [Int.natAbs_mul, Int.natAbs_natCast], fun h => ?_, fun h => ?_⟩
  · have : T < 0 := by
      rcases Int.lt_or_le T 0 with h3 | h3
      · exact h3
      · have := Int.mul_nonneg h3 (Int.le_of_lt hp); omega
    rw [if_neg (by omega), decide_eq_true this]
  · have : 0 < T := by
      rcases Int.lt_or_le 0 T with h3 | h3
      · exact h3
      · have := Int.mul_nonneg (a := -T) (by omega) (Int.le_of_lt hp)
        rw [Int.neg_mul] at this; omega
    rw [if_neg (by omega), decide_eq_false (by omega)]
theorem diff_written {x y r : Nat} (hx : Num x) (hy : Num y) (h : Gives (double.sub x y) r) : ∃ z m e, -1074 ≤ e ∧ r = double.nearest z m e ∧ (key x - key y).natAbs = m * 2 ^ (e + 1074).toNat ∧ (key x - key y < 0 → z = true) ∧ (0 < key x - key y → z = false) := by
  have h : Gives (double.add x (Flo.neg y)) r := by
    unfold Format.add
    rw [read_neg]
    exact h
  have := sum_written hx hy.neg h
  rw [key_neg] at this
  exact this
/-- One half. -/
def halfF : Nat := 4602678819172646912
theorem read_half : double.read halfF = .number false (2 ^ 52) (-53) := by decide
theorem half_num : Num halfF := ⟨_, _, _, read_half⟩
theorem U_two {k : Nat} (h : k + 1 = uExp) : U = 2 * 2 ^ k := by unfold U; rw [← h, Nat.pow_succ]; omega
theorem key_half : 2 * key halfF = U := by
  unfold key
  rw [read_half, key_num, signed_eq, if_neg (by decide), Int.one_mul, ← Nat.pow_add, U_two (k := 52 + ((-53 : Int) + 1074).toNat) (by unfold uExp; omega)]
  rw [Int.natCast_mul]
  rfl
/-- One half, in units of the least place. -/
def hExp : Nat := 1073
def topE : Nat := 2097
theorem toU {k : Nat} (h : k ≤ 1074) : U = 2 ^ (1074 - k) * 2 ^ k := by rw [U_split h, Nat.mul_comm]
theorem floor_U (X : Int) : X / (U : Int) * U ≤ X ∧ X < X / (U : Int) * U + U := by
  have hu : (U : Int) ≠ 0 := by have := U_pos; omega
  have h1 := Int.mul_ediv_add_emod X U
  have h2 := Int.emod_nonneg X hu
  have h3 := Int.emod_lt_of_pos X (show (0 : Int) < U by have := U_pos; omega)
  rw [Int.mul_comm] at h1
  generalize X / (U : Int) * U = P at *
  omega
/-- The rest behind a whole number: just so, or less than a half below nought. -/
theorem rest_ok {x r : Nat} (hx : Num x) {n : Int} (hn : n = key x / U) (hs : n.natAbs ≤ 2 ^ 53) (h : Gives (double.sub x (fl n)) r) : isNaN r = false ∧ (key r = key x - n * U ∨ (n = -1 ∧ (U : Int) ≤ 2 * (key x + U) ∧ (U : Int) ≤ 2 * key r)) := by
  have hf := isW_fl hs
  have hfl := floor_U (key x)
  rw [← hn] at hfl
  obtain ⟨s, m, e, hr⟩ := hx
  obtain ⟨b1, b2, b3⟩ := read_num hr
  have hk : key x = (if s then -1 else 1) * ((m * 2 ^ (e + 1074).toNat : Nat) : Int) := by unfold key; rw [hr, key_num, signed_eq]
  have hN : Num x := ⟨_, _, _, hr⟩
  by_cases hw : Rep (key x - n * U).natAbs
  · have := sub_exact hN hf.1 h (by rw [hf.2]; exact hw)
    rw [hf.2] at this
    exact ⟨this.1, .inl this.2⟩
  · have hu := U_pos
    have hsmall : (e + 1074).toNat < 1021 := by
      rcases Nat.lt_or_ge (e + 1074).toNat 1021 with c | c
      · exact c
      · exfalso
        apply hw
        by_cases hc : (e + 1074).toNat ≤ 1074
        · have hU := toU hc
          have hg : 2 ^ (1074 - (e + 1074).toNat) ≤ 2 ^ 53 := Nat.pow_le_pow_right (by omega) (by omega)
          have hp := Nat.two_pow_pos (e + 1074).toNat
          have e1 : key x - n * U = ((if s then -1 else 1) * (m : Int) - n * ((2 ^ (1074 - (e + 1074).toNat) : Nat) : Int)) * ((2 ^ (e + 1074).toNat : Nat) : Int) := by
            rw [hk, hU, Int.natCast_mul, Int.natCast_mul, Int.sub_mul]
            simp only [Int.mul_assoc]
          rw [e1, Int.natAbs_mul, Int.natAbs_natCast]
          generalize hT : ((if s then -1 else 1) * (m : Int) - n * ((2 ^ (1074 - (e + 1074).toNat) : Nat) : Int)) = T at *
          refine rep_mul ?_ (by omega)
          have f1 : 0 ≤ T := by
            rcases Int.lt_or_le T 0 with d | d
            · have := Int.mul_neg_of_neg_of_pos d (show (0 : Int) < ((2 ^ (e + 1074).toNat : Nat) : Int) by omega)
              omega
            · exact d
          have f2 : T < ((2 ^ (1074 - (e + 1074).toNat) : Nat) : Int) := by
            rcases Int.lt_or_le T ((2 ^ (1074 - (e + 1074).toNat) : Nat) : Int) with d | d
            · exact d
            · have := Int.mul_le_mul_of_nonneg_right d (show (0 : Int) ≤ ((2 ^ (e + 1074).toNat : Nat) : Int) by omega)
              rw [← Int.natCast_mul, ← hU] at this
              omega
          omega
        · have hdiv : key x = (if s then -1 else 1) * ((m * 2 ^ ((e + 1074).toNat - uExp) : Nat) : Int) * U := by
            rw [hk, Int.mul_assoc, ← Int.natCast_mul, Nat.mul_assoc, ← pow_U rfl, ← Nat.pow_add, Nat.sub_add_cancel (by unfold uExp; omega)]
          generalize (if s then -1 else 1) * ((m * 2 ^ ((e + 1074).toNat - uExp) : Nat) : Int) = M at *
          have : n = M := by rw [hn, hdiv]; exact Int.mul_ediv_cancel _ (by omega)
          rw [hdiv, this, Int.sub_self]
          exact ⟨by simp, by decide⟩
    have hlt : 2 * (m * 2 ^ (e + 1074).toNat) < U := by
      rw [U_two (k := hExp) (by unfold uExp hExp; rfl)]
      have h3 : m * 2 ^ (e + 1074).toNat < 2 ^ 53 * 2 ^ (e + 1074).toNat := Nat.mul_lt_mul_of_pos_right b2 (Nat.two_pow_pos _)
      rw [← Nat.pow_add] at h3
      have := Nat.lt_of_lt_of_le h3 (Nat.pow_le_pow_right (by omega) (show 53 + (e + 1074).toNat ≤ hExp by unfold hExp; omega))
      exact Nat.mul_lt_mul_of_pos_left this (by omega)
    have hm1 : n = -1 := by
      generalize m * 2 ^ (e + 1074).toNat = X at *
      have g1 : n ≤ 0 := by
        rcases Int.lt_or_le 0 n with d | d
        · have := Int.mul_le_mul_of_nonneg_right (show (1 : Int) ≤ n by omega) (show (0 : Int) ≤ U by omega)
          cases s <;> simp at hk <;> omega
        · exact d
      have g2 : -1 ≤ n := by
        rcases Int.lt_or_le n (-1) with d | d
        · have := Int.mul_le_mul_of_nonneg_right (show n + 1 ≤ (-1 : Int) by omega) (show (0 : Int) ≤ U by omega)
          rw [Int.add_mul, Int.one_mul] at this
          cases s <;> simp at hk <;> omega
        · exact d
      rcases Int.lt_or_le n 0 with d | d
      · omega
      · exfalso
        apply hw
        rw [show n = 0 by omega, Int.zero_mul, Int.sub_zero]
        exact rep_key hr
    subst hm1
    obtain ⟨z, m2, e2, k1, k2, k3, k4, k5⟩ := diff_written hN hf.1 h
    rw [hf.2] at k3 k4 k5
    rw [show key x - -1 * (U : Int) = key x + U by omega] at k3 k4 k5
    have hpos : (U : Int) < 2 * (key x + U) := by
      generalize m * 2 ^ (e + 1074).toNat = X at *
      cases s <;> simp at hk <;> omega
    have hup : key x + U ≤ U := by omega
    have hz := k5 (by omega)
    subst hz
    rw [k2]
    refine ⟨nan_nearest _ _ _, .inr ⟨rfl, by omega, ?_⟩⟩
    obtain ⟨V, hV⟩ : ∃ V, V = (key x + U).natAbs := ⟨_, rfl⟩
    rw [← hV] at k3
    have hVl : 2 ^ hExp ≤ V := by
      have := U_two (k := hExp) (by unfold uExp hExp; rfl)
      generalize 2 ^ hExp = h at *
      omega
    have hVu : V ≤ U := by omega
    have hm0 : m2 ≠ 0 := by
      intro h0
      rw [h0, Nat.zero_mul] at k3
      omega
    have hlog : V.log2 ≤ 2096 := by
      have hV0 : V ≠ 0 := by omega
      have := (Nat.log2_lt (k := topE) hV0).2 (Nat.lt_of_le_of_lt hVu (by unfold U; exact Nat.pow_lt_pow_right (by omega) (by unfold uExp topE; omega)))
      unfold topE at this
      omega
    obtain ⟨K, q1, q2, q3, q4, q5, q6⟩ := round_spec false m2 e2 k1 hm0 V k3 hlog
    rw [q1]
    have := round_above hVl q3 q6
    have h5 := U_two (k := hExp) (by unfold uExp hExp; rfl)
    generalize 2 ^ hExp = h at *
    generalize K * 2 ^ (V.log2 - 52) = Y at *
    simp only [Bool.false_eq_true, if_false]
    omega
end Flo
