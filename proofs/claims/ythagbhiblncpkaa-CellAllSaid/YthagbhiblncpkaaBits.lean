/-
  Spreading and gathering of bits: plain arithmetic; no program in sight.
-/
import Derived.Laws.Bits64b
import Derived.Laws.BitsLemmas
namespace Go.Proofs.Ythagbhiblncpkaa

/-- A number's bits at every second place. -/
def spr : Nat → Nat → Nat
  | 0, _ => 0
  | i + 1, u => u % 2 + 4 * spr i (u / 2)
/-- Every second bit of a number. -/
def gth : Nat → Nat → Nat
  | 0, _ => 0
  | i + 1, n => n % 2 + 2 * gth i (n / 4)

theorem spr_lt (i : Nat) : ∀ u, spr i u < 4 ^ i ∧ 3 * spr i u < 4 ^ i := by
  induction i with
  | zero => intro u; simp [spr]
  | succ i ih => intro u; have := ih (u / 2); have := Nat.mod_lt u (show 0 < 2 by omega); simp only [spr, Nat.pow_succ]; omega
theorem gth_lt (i : Nat) : ∀ n, gth i n < 2 ^ i := by
  induction i with
  | zero => intro u; simp [gth]
  | succ i ih => intro u; have := ih (u / 4); have := Nat.mod_lt u (show 0 < 2 by omega); simp only [gth, Nat.pow_succ]; omega
theorem gth_spr (i : Nat) : ∀ u v, gth i (spr i u + 2 * spr i v) = u % 2 ^ i := by
  induction i with
  | zero => intro u v; simp [gth, Nat.mod_one]
  | succ i ih =>
    intro u v
    have h := ih (u / 2) (v / 2)
    simp only [gth, spr]
    have e1 : (u % 2 + 4 * spr i (u / 2) + 2 * (v % 2 + 4 * spr i (v / 2))) / 4 = spr i (u / 2) + 2 * spr i (v / 2) := by omega
    have e2 : (u % 2 + 4 * spr i (u / 2) + 2 * (v % 2 + 4 * spr i (v / 2))) % 2 = u % 2 := by omega
    rw [e1, e2, h, show 2 ^ (i + 1) = 2 * 2 ^ i by rw [Nat.pow_succ, Nat.mul_comm], Nat.mod_mul]
theorem gth_spr' (i : Nat) : ∀ u v, gth i ((spr i u + 2 * spr i v) / 2) = v % 2 ^ i := by
  induction i with
  | zero => intro u v; simp [gth, Nat.mod_one]
  | succ i ih =>
    intro u v
    have h := ih (u / 2) (v / 2)
    simp only [gth, spr]
    have e1 : (u % 2 + 4 * spr i (u / 2) + 2 * (v % 2 + 4 * spr i (v / 2))) / 2 / 4 = (spr i (u / 2) + 2 * spr i (v / 2)) / 2 := by omega
    have e2 : (u % 2 + 4 * spr i (u / 2) + 2 * (v % 2 + 4 * spr i (v / 2))) / 2 % 2 = v % 2 := by omega
    rw [e1, e2, h, show 2 ^ (i + 1) = 2 * 2 ^ i by rw [Nat.pow_succ, Nat.mul_comm], Nat.mod_mul]
theorem spr_gth (i : Nat) : ∀ n, spr i (gth i n) + 2 * spr i (gth i (n / 2)) = n % 4 ^ i := by
  induction i with
  | zero => intro n; simp [spr, Nat.mod_one]
  | succ i ih =>
    intro n
    have h := ih (n / 4)
    simp only [gth, spr]
    have e1 : (n % 2 + 2 * gth i (n / 4)) / 2 = gth i (n / 4) := by omega
    have e2 : (n % 2 + 2 * gth i (n / 4)) % 2 = n % 2 := by omega
    have e3 : (n / 2 % 2 + 2 * gth i (n / 2 / 4)) / 2 = gth i (n / 2 / 4) := by omega
    have e4 : (n / 2 % 2 + 2 * gth i (n / 2 / 4)) % 2 = n / 2 % 2 := by omega
    have e5 : n / 2 / 4 = n / 4 / 2 := by omega
    rw [e1, e2, e3, e4, e5, show 4 ^ (i + 1) = 4 * 4 ^ i by rw [Nat.pow_succ, Nat.mul_comm], Nat.mod_mul]
    omega
theorem spr_strict (i : Nat) : ∀ u v, u < v → v < 2 ^ i → spr i u < spr i v := by
  induction i with
  | zero => intro u v h h2; simp at h2; omega
  | succ i ih =>
    intro u v h h2
    simp only [spr]
    rw [Nat.pow_succ] at h2
    by_cases e : u / 2 = v / 2
    · rw [e]; omega
    · have := ih (u / 2) (v / 2) (by omega) (by omega); omega
theorem spr_mono (i : Nat) (u v : Nat) (h : u ≤ v) (h2 : v < 2 ^ i) : spr i u ≤ spr i v := by
  rcases Nat.lt_or_ge u v with h1 | h1
  · exact Nat.le_of_lt (spr_strict i u v h1 h2)
  · rw [show u = v by omega]; exact Nat.le_refl _

theorem spr_top (k : Nat) : ∀ u, spr (k + 1) u = spr k u + 4 ^ k * (u / 2 ^ k % 2) := by
  induction k with
  | zero => intro u; simp [spr]
  | succ k ih =>
    intro u
    have h := ih (u / 2)
    rw [spr, h, spr, Nat.div_div_eq_div_mul, show 2 * 2 ^ k = 2 ^ (k + 1) by rw [Nat.pow_succ, Nat.mul_comm], show 4 ^ (k + 1) = 4 * 4 ^ k by rw [Nat.pow_succ, Nat.mul_comm], Nat.mul_add, Nat.mul_assoc]
    omega
theorem gth_top (k : Nat) : ∀ n, gth (k + 1) n = gth k n + 2 ^ k * (n / 4 ^ k % 2) := by
  induction k with
  | zero => intro u; simp [gth]
  | succ k ih =>
    intro n
    have h := ih (n / 4)
    rw [gth, h, gth, Nat.div_div_eq_div_mul, show 4 * 4 ^ k = 4 ^ (k + 1) by rw [Nat.pow_succ, Nat.mul_comm], show 2 ^ (k + 1) = 2 * 2 ^ k by rw [Nat.pow_succ, Nat.mul_comm], Nat.mul_add, Nat.mul_assoc]
    omega
theorem four_le {k : Nat} (h : k < 32) : 4 ^ k ≤ 4611686018427387904 := Nat.pow_le_pow_right (by omega) (show k ≤ 31 by omega)
theorem two_le {k : Nat} (h : k < 32) : 2 ^ k ≤ 2147483648 := Nat.pow_le_pow_right (by omega) (show k ≤ 31 by omega)

/-! ### bits -/
theorem tb_two (r x j : Nat) (h : r < 4) : (r + 4 * x).testBit (j + 2) = x.testBit j := by
  rw [show j + 2 = (j + 1) + 1 from rfl, Nat.testBit_succ, Nat.testBit_succ]
  congr 1
  omega
theorem spr_bit (i : Nat) : ∀ u j, (spr i u).testBit j = (decide (j % 2 = 0 ∧ j / 2 < i) && u.testBit (j / 2)) := by
  induction i with
  | zero => intro u j; simp [spr]
  | succ i ih =>
    intro u j
    have hr := Nat.mod_lt u (show 0 < 2 by omega)
    match j with
    | 0 => simp [spr, Nat.testBit_zero]; omega
    | 1 =>
      simp only [spr]
      rw [show (1 : Nat) = 0 + 1 from rfl, Nat.testBit_succ, Nat.testBit_zero]
      have : (u % 2 + 4 * spr i (u / 2)) / 2 % 2 = 0 := by omega
      simp [this]
    | j + 2 =>
      simp only [spr]
      rw [tb_two _ _ _ (by omega), ih, ← Nat.testBit_succ]
      rw [show (j + 2) / 2 = j / 2 + 1 by omega, show (j + 2) % 2 = j % 2 by omega]
      congr 1
      rw [decide_eq_decide]
      omega
theorem gth_bit (i : Nat) : ∀ n j, (gth i n).testBit j = (decide (j < i) && n.testBit (2 * j)) := by
  induction i with
  | zero => intro u j; simp [gth]
  | succ i ih =>
    intro n j
    have hr := Nat.mod_lt n (show 0 < 2 by omega)
    match j with
    | 0 => simp [gth, Nat.testBit_zero]
    | j + 1 =>
      simp only [gth]
      rw [Nat.testBit_succ, show (n % 2 + 2 * gth i (n / 4)) / 2 = gth i (n / 4) by omega, ih, show 2 * (j + 1) = 2 * j + 1 + 1 by omega, Nat.testBit_succ, Nat.testBit_succ, show n / 2 / 2 = n / 4 by omega]
      congr 1
      rw [decide_eq_decide]
      omega
theorem spr_or (i a b : Nat) : spr i (a ||| b) = spr i a ||| spr i b := by
  apply Nat.eq_of_testBit_eq
  intro j
  rw [Nat.testBit_or, spr_bit, spr_bit, spr_bit, Nat.testBit_or]
  cases decide (j % 2 = 0 ∧ j / 2 < i) <;> simp
theorem gth_or (i a b : Nat) : gth i (a ||| b) = gth i a ||| gth i b := by
  apply Nat.eq_of_testBit_eq
  intro j
  rw [Nat.testBit_or, gth_bit, gth_bit, gth_bit, Nat.testBit_or]
  cases decide (j < i) <;> simp

/-- Disjoint bits add up. -/
theorem spr_join (i u v : Nat) : spr i u ||| 2 * spr i v = spr i u + 2 * spr i v := by
  induction i generalizing u v with
  | zero => simp [spr]
  | succ i ih =>
    have h := ih (u / 2) (v / 2)
    simp only [spr]
    have hu := Nat.mod_lt u (show 0 < 2 by omega)
    have hv := Nat.mod_lt v (show 0 < 2 by omega)
    apply Nat.eq_of_testBit_eq
    intro j
    have e1 : 2 * (v % 2 + 4 * spr i (v / 2)) = 2 * (v % 2) + 4 * (2 * spr i (v / 2)) := by omega
    have e2 : u % 2 + 4 * spr i (u / 2) + 2 * (v % 2 + 4 * spr i (v / 2)) = (u % 2 + 2 * (v % 2)) + 4 * (spr i (u / 2) + 2 * spr i (v / 2)) := by omega
    rw [Nat.testBit_or, e2, e1]
    match j with
    | 0 =>
      simp only [Nat.testBit_zero]
      rw [show (u % 2 + 4 * spr i (u / 2)) % 2 = u % 2 by omega, show (2 * (v % 2) + 4 * (2 * spr i (v / 2))) % 2 = 0 by omega, show (u % 2 + 2 * (v % 2) + 4 * (spr i (u / 2) + 2 * spr i (v / 2))) % 2 = u % 2 by omega]
      simp
    | 1 =>
      rw [show (1 : Nat) = 0 + 1 from rfl]
      simp only [Nat.testBit_succ, Nat.testBit_zero]
      rw [show (u % 2 + 4 * spr i (u / 2)) / 2 % 2 = 0 by omega, show (2 * (v % 2) + 4 * (2 * spr i (v / 2))) / 2 % 2 = v % 2 by omega, show (u % 2 + 2 * (v % 2) + 4 * (spr i (u / 2) + 2 * spr i (v / 2))) / 2 % 2 = v % 2 by omega]
      simp
    | j + 2 => rw [tb_two _ _ _ (by omega), tb_two _ _ _ (by omega), tb_two _ _ _ (by omega), ← Nat.testBit_or, h]

/-! ### the program's way -/
def st (a k m : Nat) : Nat := (a ||| a <<< k) &&& m
def sd (a k m : Nat) : Nat := (a ||| a >>> k) &&& m
theorem st_or (a b k m : Nat) : st (a ||| b) k m = st a k m ||| st b k m := by
  apply Nat.eq_of_testBit_eq
  intro j
  simp only [st, Nat.testBit_and, Nat.testBit_or, Nat.testBit_shiftLeft]
  cases a.testBit j <;> cases b.testBit j <;> cases decide (j ≥ k) <;> cases a.testBit (j - k) <;> cases b.testBit (j - k) <;> cases m.testBit j <;> rfl
theorem sd_or (a b k m : Nat) : sd (a ||| b) k m = sd a k m ||| sd b k m := by
  apply Nat.eq_of_testBit_eq
  intro j
  simp only [sd, Nat.testBit_and, Nat.testBit_or, Nat.testBit_shiftRight]
  cases a.testBit j <;> cases b.testBit j <;> cases a.testBit (k + j) <;> cases b.testBit (k + j) <;> cases m.testBit j <;> rfl
def sprN (u : Nat) : Nat := st (st (st (st (st u 16 281470681808895) 8 71777214294589695) 4 1085102592571150095) 2 3689348814741910323) 1 6148914691236517205
def gthN (n : Nat) : Nat := sd (sd (sd (sd (sd (n &&& 6148914691236517205) 1 3689348814741910323) 2 1085102592571150095) 4 71777214294589695) 8 281470681808895) 16 4294967295
theorem and_or (a b m : Nat) : (a ||| b) &&& m = (a &&& m) ||| (b &&& m) := by
  apply Nat.eq_of_testBit_eq
  intro j
  simp only [Nat.testBit_and, Nat.testBit_or]
  cases a.testBit j <;> cases b.testBit j <;> cases m.testBit j <;> rfl

theorem sprN_spr : ∀ i, i ≤ 32 → ∀ u, u < 2 ^ i → sprN u = spr 32 u := by
  intro i
  induction i with
  | zero => intro _ u hu; have : u = 0 := by simpa using hu
            subst this; decide
  | succ i ih =>
    intro hi u hu
    by_cases h : u < 2 ^ i
    · exact ih (by omega) u h
    · have hb : ∀ k, k < 32 → sprN (2 ^ k) = spr 32 (2 ^ k) := by decide
      obtain ⟨r, hr⟩ : ∃ r, u = 2 ^ i * 1 + r := ⟨u - 2 ^ i, by omega⟩
      have hr2 : r < 2 ^ i := by rw [Nat.pow_succ] at hu; omega
      rw [hr, Nat.two_pow_add_eq_or_of_lt hr2, Nat.mul_one, spr_or, ← ih (by omega) r hr2, ← hb i (by omega)]
      simp only [sprN, st_or]
theorem gthN_gth : ∀ i, i ≤ 64 → ∀ u, u < 2 ^ i → gthN u = gth 32 u := by
  intro i
  induction i with
  | zero => intro _ u hu; have : u = 0 := by simpa using hu
            subst this; decide
  | succ i ih =>
    intro hi u hu
    by_cases h : u < 2 ^ i
    · exact ih (by omega) u h
    · have hb : ∀ k, k < 64 → gthN (2 ^ k) = gth 32 (2 ^ k) := by decide
      obtain ⟨r, hr⟩ : ∃ r, u = 2 ^ i * 1 + r := ⟨u - 2 ^ i, by omega⟩
      have hr2 : r < 2 ^ i := by rw [Nat.pow_succ] at hu; omega
      rw [hr, Nat.two_pow_add_eq_or_of_lt hr2, Nat.mul_one, gth_or, ← ih (by omega) r hr2, ← hb i (by omega)]
      simp only [gthN, sd_or, and_or]

end Go.Proofs.Ythagbhiblncpkaa
