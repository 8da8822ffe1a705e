/-
  Floats, plainly: what is written is read again; what the format has is rounded to itself.
-/
import Derived.Test.YtkbcdfniocmamaaFloA
namespace Flo
open Ieee

theorem read_def (x : Nat) : double.read x = (if x % 2 ^ 63 < 2 ^ 52 then Datum.number (x / 2 ^ 63 % 2 == 1) (x % 2 ^ 63) (-1074)
    else if x % 2 ^ 63 < 2047 * 2 ^ 52 then .number (x / 2 ^ 63 % 2 == 1) (2 ^ 52 + x % 2 ^ 63 % 2 ^ 52) (-1074 + (x % 2 ^ 63 / 2 ^ 52 - 1 : Nat))
    else if x % 2 ^ 63 = 2047 * 2 ^ 52 then .infinity (x / 2 ^ 63 % 2 == 1) else .nan (x / 2 ^ 63 % 2 == 1) (x % 2 ^ 63 - 2047 * 2 ^ 52)) := by
  unfold Format.read
  rw [binade_d, infRung_d, signWeight_d, leastPlace_d]
theorem word_def (s : Bool) (r : Nat) : double.word s r = if s then 2 ^ 63 + r else r := by
  unfold Format.word
  rw [signWeight_d]
theorem read_word (s : Bool) (r : Nat) (h : r ≤ 2047 * 2 ^ 52) : double.read (double.word s r) = (if r < 2 ^ 52 then Datum.number s r (-1074)
    else if r < 2047 * 2 ^ 52 then .number s (2 ^ 52 + r % 2 ^ 52) (-1074 + (r / 2 ^ 52 - 1 : Nat)) else .infinity s) := by
  rw [read_def, word_def]
  cases s
  · have h1 : r % 2 ^ 63 = r := by omega
    have h2 : (r / 2 ^ 63 % 2 == 1) = false := by rw [beq_eq_false_iff_ne]; omega
    simp only [Bool.false_eq_true, if_false, h1, h2]
    split
    · rfl
    · split
      · rfl
      · rw [if_pos (by omega)]
  · have h1 : (2 ^ 63 + r) % 2 ^ 63 = r := by omega
    have h2 : ((2 ^ 63 + r) / 2 ^ 63 % 2 == 1) = true := by rw [beq_iff_eq]; omega
    simp only [if_true, h1, h2]
    split
    · rfl
    · split
      · rfl
      · rw [if_pos (by omega)]
/-- What a rung stands for. -/
def rungVal (r : Nat) : Nat := if r < 2 ^ 52 then r else (2 ^ 52 + r % 2 ^ 52) * 2 ^ (r / 2 ^ 52 - 1)
theorem key_word (s : Bool) (r : Nat) (h : r < 2047 * 2 ^ 52) : isNaN (double.word s r) = false ∧ key (double.word s r) = (if s then -1 else 1) * (rungVal r : Int) := by
  unfold isNaN key
  rw [read_word s r (by omega)]
  unfold rungVal
  split
  · refine ⟨rfl, ?_⟩
    rw [key_num, signed_eq]
    simp
  · refine ⟨rfl, ?_⟩
    rw [key_num, signed_eq, show (-1074 + ((r / 2 ^ 52 - 1 : Nat) : Int) + 1074).toNat = r / 2 ^ 52 - 1 by omega]
theorem key_word_inf (s : Bool) : isNaN (double.word s (2047 * 2 ^ 52)) = false ∧ key (double.word s (2047 * 2 ^ 52)) = (if s then -1 else 1) * inf := by
  unfold isNaN key
  rw [read_word s _ (Nat.le_refl _), if_neg (by omega), if_neg (by omega)]
  refine ⟨rfl, ?_⟩
  rw [key_inf]
  cases s <;> simp
theorem rungVal_eq (q kept : Nat) (h1 : kept ≤ 2 ^ 53) (h2 : 0 < q → 2 ^ 52 ≤ kept) : rungVal (q * 2 ^ 52 + kept) = kept * 2 ^ q := by
  unfold rungVal
  by_cases h3 : kept < 2 ^ 52
  · obtain rfl : q = 0 := by omega
    rw [if_pos (by omega)]
    omega
  · rw [if_neg (by omega)]
    by_cases h4 : kept = 2 ^ 53
    · subst h4
      rw [show q * 2 ^ 52 + 2 ^ 53 = (q + 2) * 2 ^ 52 by omega, Nat.mul_mod_left, Nat.mul_div_cancel _ (by omega), show q + 2 - 1 = q + 1 by omega, Nat.pow_succ]
      omega
    · have e1 : (q * 2 ^ 52 + kept) % 2 ^ 52 = kept - 2 ^ 52 := by omega
      have e2 : (q * 2 ^ 52 + kept) / 2 ^ 52 - 1 = q := by omega
      rw [e1, e2, show 2 ^ 52 + (kept - 2 ^ 52) = kept by omega]
/-- A written number is a number, or above all. -/
theorem nan_nearest (s : Bool) (m : Nat) (e : Int) : isNaN (double.nearest s m e) = false := by
  unfold Format.nearest
  simp only
  split
  · exact (key_word s 0 (by omega)).1
  · rw [infRung_d]
    generalize hr : min _ (2047 * 2 ^ 52) = r
    have h1 : r ≤ 2047 * 2 ^ 52 := by rw [← hr]; exact Nat.min_le_right _ _
    rcases Nat.lt_or_eq_of_le h1 with h2 | h2
    · exact (key_word s r h2).1
    · rw [h2]; exact (key_word_inf s).1
theorem nan_write {d : Datum} (h : d.isNaN = false) : isNaN (double.write d) = false := by
  cases d with
  | number s m e => exact nan_nearest s m e
  | infinity s =>
    show isNaN (double.word s double.infRung) = false
    rw [infRung_d]
    exact (key_word_inf s).1
  | nan => simp [Datum.isNaN] at h

theorem log2_mul_pow (m k : Nat) (h : m ≠ 0) : (m * 2 ^ k).log2 = m.log2 + k := by
  have hn : m * 2 ^ k ≠ 0 := Nat.mul_ne_zero h (Nat.ne_of_gt (Nat.two_pow_pos _))
  have h1 : m.log2 + k ≤ (m * 2 ^ k).log2 := by
    rw [Nat.le_log2 hn, Nat.pow_add]
    exact Nat.mul_le_mul_right _ (Nat.log2_self_le h)
  have h2 : (m * 2 ^ k).log2 < m.log2 + k + 1 := by
    rw [Nat.log2_lt hn, show m.log2 + k + 1 = (m.log2 + 1) + k by omega, Nat.pow_add]
    exact Nat.mul_lt_mul_of_pos_right Nat.lt_log2_self (Nat.two_pow_pos _)
  omega
/-- Nothing is dropped. -/
theorem cut_even (s : Bool) (n q : Nat) (h : 2 ^ q ∣ n) (hn : n ≠ 0) : Toward.even.cut s n q = n / 2 ^ q := by
  have h1 : q ≤ n.log2 := by
    rw [Nat.le_log2 hn]
    exact Nat.le_of_dvd (by omega) h
  unfold Toward.cut
  simp only
  rw [Nat.min_eq_left (by omega), Nat.shiftLeft_eq, Nat.one_mul, Nat.mod_eq_zero_of_dvd h]
  have h2 : 0 < 2 ^ q := Nat.two_pow_pos _
  simp
/-- What the format has is rounded to itself. V: the number in units of the least place. -/
theorem nearest_exact (s : Bool) (m : Nat) (e : Int) (he : -1074 ≤ e) (V : Nat) (hV : V = m * 2 ^ (e + 1074).toNat) (hd : 2 ^ (V.log2 - 52) ∣ V) (hb : V.log2 ≤ 2097) :
    key (double.nearest s m e) = (if s then -1 else 1) * (V : Int) := by
  unfold Format.nearest
  simp only
  by_cases hm : m = 0
  · rw [if_pos hm, (key_word s 0 (by omega)).2, hV, hm]
    simp [rungVal]
  rw [if_neg hm, infRung_d, binade_d, leastPlace_d]
  have hf : double.fractionBits = 52 := rfl
  rw [hf]
  have hVn : V ≠ 0 := by rw [hV]; exact Nat.mul_ne_zero hm (Nat.ne_of_gt (Nat.two_pow_pos _))
  have hlog : V.log2 = m.log2 + (e + 1074).toNat := by
    rw [hV]
    exact log2_mul_pow m _ hm
  obtain ⟨q, hq⟩ : ∃ q, q = V.log2 - 52 := ⟨_, rfl⟩
  have hlast : max (e + (m.log2 : Int) - ((52 : Nat) : Int)) (-1074) = (q : Int) - 1074 := by omega
  rw [hlast]
  have e1 : ((q : Int) - 1074 - -1074).toNat = q := by omega
  rw [e1]
  rw [← hq] at hd
  have hk : Toward.even.cut s (m <<< (e - ((q : Int) - 1074)).toNat) ((q : Int) - 1074 - e).toNat = V / 2 ^ q := by
    rw [Nat.shiftLeft_eq]
    by_cases hc : (q : Int) - 1074 ≤ e
    · have e2 : ((q : Int) - 1074 - e).toNat = 0 := by omega
      rw [e2, cut_even _ _ _ (by simp) (Nat.mul_ne_zero hm (Nat.ne_of_gt (Nat.two_pow_pos _))), Nat.pow_zero, Nat.div_one, hV]
      rw [show (e + 1074).toNat = (e - ((q : Int) - 1074)).toNat + q by omega, Nat.pow_add, ← Nat.mul_assoc, Nat.mul_div_cancel _ (Nat.two_pow_pos _)]
    · have e2 : (e - ((q : Int) - 1074)).toNat = 0 := by omega
      have e3 : q = (e + 1074).toNat + ((q : Int) - 1074 - e).toNat := by omega
      rw [e2, Nat.pow_zero, Nat.mul_one]
      generalize hg : ((q : Int) - 1074 - e).toNat = g at *
      have hdm : 2 ^ g ∣ m := by
        rw [hV, e3, Nat.pow_add, Nat.mul_comm] at hd
        exact Nat.dvd_of_mul_dvd_mul_right (Nat.two_pow_pos _) hd
      rw [cut_even _ _ _ hdm hm, hV, e3, Nat.pow_add, Nat.mul_comm (2 ^ (e + 1074).toNat), Nat.mul_div_mul_right _ _ (Nat.two_pow_pos _)]
  rw [hk]
  have hlt : V / 2 ^ q < 2 ^ 53 := by
    rw [Nat.div_lt_iff_lt_mul (Nat.two_pow_pos _), ← Nat.pow_add]
    exact Nat.lt_of_lt_of_le (Nat.lt_log2_self) (Nat.pow_le_pow_right (by omega) (by omega))
  have hge : 0 < q → 2 ^ 52 ≤ V / 2 ^ q := fun h0 => by
    rw [Nat.le_div_iff_mul_le (Nat.two_pow_pos _), ← Nat.pow_add]
    exact Nat.le_trans (Nat.pow_le_pow_right (by omega) (by omega)) (Nat.log2_self_le hVn)
  have hr : q * 2 ^ 52 + V / 2 ^ q < 2047 * 2 ^ 52 := by
    have : q ≤ 2045 := by omega
    omega
  rw [Nat.min_eq_left (by omega), (key_word s _ hr).2, rungVal_eq q _ (by omega) hge, Nat.div_mul_cancel hd]
end Flo
