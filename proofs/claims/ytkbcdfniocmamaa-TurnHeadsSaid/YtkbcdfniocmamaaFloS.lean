/-
  Floats, plainly: whole numbers are added, taken away, multiplied and, where it comes out even, divided exactly.
-/
import Derived.Test.YtkbcdfniocmamaaFloQ
namespace Flo
open Ieee

theorem isW_mk {x : Nat} {n : Int} (h : isNaN x = false) (hk : key x = n * U) (hn : n.natAbs ≤ 2 ^ 53) : IsW x n :=
  ⟨num_of_whole h hk (Nat.le_trans hn (Nat.pow_le_pow_right (by omega) (by unfold wExp; omega))), hk⟩
theorem isW_add {x y r : Nat} {m n : Int} (hx : IsW x m) (hy : IsW y n) (hb : (m + n).natAbs ≤ 2 ^ 53) (h : Gives (double.add x y) r) : IsW r (m + n) := by
  have e : key x + key y = (m + n) * U := by rw [hx.2, hy.2, Int.add_mul]
  have := add_exact hx.1 hy.1 h (by rw [e, mul_U_abs]; exact rep_whole hb)
  exact isW_mk this.1 (this.2.trans e) hb
theorem isW_sub {x y r : Nat} {m n : Int} (hx : IsW x m) (hy : IsW y n) (hb : (m - n).natAbs ≤ 2 ^ 53) (h : Gives (double.sub x y) r) : IsW r (m - n) := by
  have e : key x - key y = (m - n) * U := by rw [hx.2, hy.2, Int.sub_mul]
  have := sub_exact hx.1 hy.1 h (by rw [e, mul_U_abs]; exact rep_whole hb)
  exact isW_mk this.1 (this.2.trans e) hb
theorem key_abs {x : Nat} {s : Bool} {m : Nat} {e : Int} (h : double.read x = .number s m e) : (key x).natAbs = m * 2 ^ (e + 1074).toNat := by
  unfold key
  rw [h, key_num, signed_natAbs]
theorem key_sign {x : Nat} {s : Bool} {m : Nat} {e : Int} (h : double.read x = .number s m e) : (key x < 0 → s = true) ∧ (0 < key x → s = false) := by
  unfold key
  rw [h, key_num, signed_eq]
  have h0 : (0 : Int) ≤ ((m * 2 ^ (e + 1074).toNat : Nat) : Int) := Int.natCast_nonneg _
  generalize ((m * 2 ^ (e + 1074).toNat : Nat) : Int) = T at *
  cases s
  · simp; omega
  · simp; omega
theorem read_place {x : Nat} {s : Bool} {m : Nat} {e : Int} (h : double.read x = .number s m e) : e = -1074 ∨ 2 ^ 52 ≤ m := by
  rw [read_def] at h
  split at h
  · injection h with _ hm he
    omega
  · split at h
    · injection h with _ hm he
      exact .inr (by omega)
    · split at h <;> cases h
/-- A whole number other than nought has no digits far behind the point. -/
theorem whole_place {x : Nat} {n : Int} (hx : IsW x n) (h0 : n ≠ 0) {s : Bool} {m : Nat} {e : Int} (h : double.read x = .number s m e) : -53 ≤ e ∧ m ≠ 0 := by
  have hk := key_abs h
  rw [hx.2, mul_U_abs] at hk
  have hU := U_pos
  have hn : 1 ≤ n.natAbs := by omega
  have hm := (read_num h).2.1
  have h1 : U ≤ m * 2 ^ (e + 1074).toNat := by rw [← hk]; exact Nat.le_mul_of_pos_left _ hn
  refine ⟨?_, fun c => by rw [c, Nat.zero_mul] at h1; omega⟩
  rcases Int.lt_or_le e (-53) with c | c
  · exfalso
    have h2 : m * 2 ^ (e + 1074).toNat < 2 ^ uExp := by
      have h3 : m * 2 ^ (e + 1074).toNat < 2 ^ 53 * 2 ^ (e + 1074).toNat := Nat.mul_lt_mul_of_pos_right hm (Nat.two_pow_pos _)
      rw [← Nat.pow_add] at h3
      exact Nat.lt_of_lt_of_le h3 (Nat.pow_le_pow_right (by omega) (by unfold uExp; omega))
    have : U = 2 ^ uExp := rfl
    omega
  · exact c
theorem nearest_zero (s : Bool) (e : Int) : isNaN (double.nearest s 0 e) = false ∧ key (double.nearest s 0 e) = 0 := by
  unfold Format.nearest
  rw [if_pos rfl]
  refine ⟨(key_word s 0 (by omega)).1, ?_⟩
  rw [(key_word s 0 (by omega)).2]
  simp [rungVal]
theorem xor_sign {a b : Bool} {m n : Int} (ha : (m < 0 → a = true) ∧ (0 < m → a = false)) (hb : (n < 0 → b = true) ∧ (0 < n → b = false)) : (m * n < 0 → (a ^^ b) = true) ∧ (0 < m * n → (a ^^ b) = false) := by
  rcases Int.lt_trichotomy m 0 with h | h | h
  · rcases Int.lt_trichotomy n 0 with k | k | k
    · have := Int.mul_pos_of_neg_of_neg h k
      rw [ha.1 h, hb.1 k]; exact ⟨fun _ => by omega, fun _ => rfl⟩
    · rw [k]; simp
    · have := Int.mul_neg_of_neg_of_pos h k
      rw [ha.1 h, hb.2 k]; exact ⟨fun _ => rfl, fun _ => by omega⟩
  · rw [h]; simp
  · rcases Int.lt_trichotomy n 0 with k | k | k
    · have := Int.mul_neg_of_pos_of_neg h k
      rw [ha.2 h, hb.1 k]; exact ⟨fun _ => rfl, fun _ => by omega⟩
    · rw [k]; simp
    · have := Int.mul_pos h k
      rw [ha.2 h, hb.2 k]; exact ⟨fun _ => by omega, fun _ => rfl⟩
theorem mul_form {x y r : Nat} {s t : Bool} {m n : Nat} {i j : Int} (hx : double.read x = .number s m i) (hy : double.read y = .number t n j) (h : Gives (double.mul x y) r) : r = double.nearest (s ^^ t) (m * n) (i + j) := by
  unfold Format.mul at h
  rw [hx, hy] at h
  exact h
theorem mul_zero_any {x y r : Nat} (hx : Num x) (hy : Num y) (h0 : key x = 0 ∨ key y = 0) (h : Gives (double.mul x y) r) : isNaN r = false ∧ key r = 0 := by
  obtain ⟨s, m, i, hx⟩ := hx
  obtain ⟨t, n, j, hy⟩ := hy
  rw [mul_form hx hy h]
  have hz : m * n = 0 := by
    rcases h0 with h0 | h0
    · have := key_abs hx
      rw [h0] at this
      rcases Nat.mul_eq_zero.1 this.symm with c | c
      · rw [c, Nat.zero_mul]
      · exact absurd c (Nat.ne_of_gt (Nat.two_pow_pos _))
    · have := key_abs hy
      rw [h0] at this
      rcases Nat.mul_eq_zero.1 this.symm with c | c
      · rw [c, Nat.mul_zero]
      · exact absurd c (Nat.ne_of_gt (Nat.two_pow_pos _))
  rw [hz]
  exact nearest_zero _ _
/-- The product of two numbers, in units of the least place, times such a unit. -/
theorem mul_units {x y : Nat} {s t : Bool} {m n : Nat} {i j : Int} (hx : double.read x = .number s m i) (hy : double.read y = .number t n j) (hp : -1074 ≤ i + j) : m * n * 2 ^ (i + j + 1074).toNat * U = (key x).natAbs * (key y).natAbs := by
  have h1 := read_num hx
  have h2 := read_num hy
  rw [key_abs hx, key_abs hy, show U = 2 ^ uExp from rfl]
  have : 2 ^ (i + 1074).toNat * 2 ^ (j + 1074).toNat = 2 ^ (i + j + 1074).toNat * 2 ^ uExp := by
    rw [← Nat.pow_add, ← Nat.pow_add]
    congr 1
    unfold uExp
    omega
  calc m * n * 2 ^ (i + j + 1074).toNat * 2 ^ uExp = m * n * (2 ^ (i + j + 1074).toNat * 2 ^ uExp) := by rw [Nat.mul_assoc]
    _ = m * n * (2 ^ (i + 1074).toNat * 2 ^ (j + 1074).toNat) := by rw [this]
    _ = m * 2 ^ (i + 1074).toNat * (n * 2 ^ (j + 1074).toNat) := by rw [Nat.mul_assoc, Nat.mul_assoc, Nat.mul_left_comm n]
theorem isW_mul {x y r : Nat} {m n : Int} (hx : IsW x m) (hy : IsW y n) (hb : (m * n).natAbs ≤ 2 ^ 53) (h : Gives (double.mul x y) r) : IsW r (m * n) := by
  by_cases hm : m = 0
  · have := mul_zero_any hx.1 hy.1 (.inl (by rw [hx.2, hm]; simp)) h
    subst hm
    rw [Int.zero_mul]
    exact isW_mk this.1 (by rw [this.2]; simp) (by simp)
  by_cases hn : n = 0
  · have := mul_zero_any hx.1 hy.1 (.inr (by rw [hy.2, hn]; simp)) h
    subst hn
    rw [Int.mul_zero]
    exact isW_mk this.1 (by rw [this.2]; simp) (by simp)
  obtain ⟨s, a, i, rx⟩ := hx.1
  obtain ⟨t, b, j, ry⟩ := hy.1
  have p1 := whole_place hx hm rx
  have p2 := whole_place hy hn ry
  have hu := mul_units rx ry (by omega)
  have hU := U_pos
  have hr := mul_form rx ry h
  have e : (m * n * (U : Int)).natAbs = a * b * 2 ^ (i + j + 1074).toNat := by
    rw [hx.2, hy.2, mul_U_abs, mul_U_abs] at hu
    rw [mul_U_abs, Int.natAbs_mul]
    refine Nat.eq_of_mul_eq_mul_right hU ?_
    rw [hu, ← Nat.mul_assoc, Nat.mul_right_comm m.natAbs U n.natAbs]
  have hs := xor_sign (key_sign rx) (key_sign ry)
  rw [hx.2, hy.2] at hs
  have hU' : (0 : Int) < U := by omega
  have sg : ∀ {P : Int}, (P * U < 0 ↔ P < 0) ∧ (0 < P * U ↔ 0 < P) := fun {P} => by
    have a1 := @mulU_lt P 0
    have a2 := @mulU_lt 0 P
    rw [Int.zero_mul] at a1 a2
    exact ⟨a1, a2⟩
  have e2 : m * ↑U * (n * ↑U) = m * n * U * U := by
    rw [Int.mul_assoc, Int.mul_left_comm (U : Int), ← Int.mul_assoc, ← Int.mul_assoc]
  rw [e2, sg.1, sg.1, sg.2, sg.2] at hs
  have hk : key r = m * n * U := by
    rw [hr]
    exact key_nearest (by omega) e (by rw [mul_U_abs]; exact rep_whole hb) (fun c => hs.1 (sg.1.1 c)) (fun c => hs.2 (sg.2.1 c))
  exact isW_mk (by rw [hr]; exact nan_nearest _ _ _) hk hb
/-- Of whole numbers: the same just if they are. -/
theorem feq_isW {x y : Nat} {m n : Int} (hx : IsW x m) (hy : IsW y n) : feq x y = decide (m = n) := by
  rw [feq_iff hx.1.nan hy.1.nan, hx.2, hy.2]
  exact decide_eq_decide.2 mulU_eq
theorem feq_same {x y : Nat} {m : Int} (hx : IsW x m) (hy : IsW y m) : feq x y = true := by rw [feq_isW hx hy, decide_eq_true rfl]
theorem alikeB_isW {x y : Nat} {m : Int} (hx : IsW x m) (hy : IsW y m) : alikeB x y = true := by unfold alikeB; rw [feq_same hx hy]; rfl
theorem isW_zero : IsW 0 0 := ⟨num_zero, by rw [key_zero]; simp⟩

/-! ### quotients that come out even -/
theorem div_form {x y r : Nat} {s t : Bool} {m n : Nat} {i j : Int} (hx : double.read x = .number s m i) (hy : double.read y = .number t n j) (hn : n ≠ 0) (h : Gives (double.div x y) r) :
    r = double.nearest (s ^^ t) (2 * (m <<< (54 + n.log2 - m.log2) / n) + (m <<< (54 + n.log2 - m.log2) % n != 0).toNat) (i - j - (54 + n.log2 - m.log2 : Nat) - 1) := by
  unfold Format.div at h
  rw [hx, hy] at h
  unfold Datum.quotient at h
  simp only at h
  rw [if_neg hn] at h
  exact h
/-- A quotient that is a whole number is that number. -/
theorem isW_div {x y r : Nat} {T : Int} (hx : Num x) (hy : Num y) (hk : key x = T * key y) (h0 : key y ≠ 0) (hb : T.natAbs ≤ 2 ^ 53) (h : Gives (double.div x y) r) : IsW r T := by
  obtain ⟨s, m, i, rx⟩ := hx
  obtain ⟨t, n, j, ry⟩ := hy
  have ay := key_abs ry
  have ax := key_abs rx
  have hn : n ≠ 0 := by
    intro c
    rw [c, Nat.zero_mul] at ay
    omega
  have hr := div_form rx ry hn h
  have hU := U_pos
  by_cases hT : T = 0
  · subst hT
    rw [Int.zero_mul] at hk
    have hm : m = 0 := by
      rw [hk] at ax
      rcases Nat.mul_eq_zero.1 ax.symm with c | c
      · exact c
      · exact absurd c (Nat.ne_of_gt (Nat.two_pow_pos _))
    subst hm
    rw [Nat.zero_shiftLeft, Nat.zero_div, Nat.zero_mod] at hr
    have := nearest_zero (s ^^ t) (i - j - (54 + n.log2 - Nat.log2 0 : Nat) - 1)
    have e : r = double.nearest (s ^^ t) 0 (i - j - (54 + n.log2 - Nat.log2 0 : Nat) - 1) := hr
    rw [e]
    exact isW_mk this.1 (by rw [this.2]; simp) (by simp)
  have p1 := read_num rx
  have p2 := read_num ry
  have hm : m ≠ 0 := by
    intro c
    rw [c, Nat.zero_mul] at ax
    have : T * key y = 0 := by omega
    rcases Int.mul_eq_zero.1 this with c | c
    · exact hT c
    · exact h0 c
  have hab : m * 2 ^ (i + 1074).toNat = T.natAbs * n * 2 ^ (j + 1074).toNat := by
    rw [← ax, hk, Int.natAbs_mul, ay, Nat.mul_assoc]
  have hTn : T.natAbs ≠ 0 := by omega
  have hTn' : T.natAbs * n ≠ 0 := Nat.mul_ne_zero hTn hn
  have hl : m.log2 + (i + 1074).toNat = (T.natAbs * n).log2 + (j + 1074).toNat := by
    rw [← log2_mul_pow _ _ hm, ← log2_mul_pow _ _ hTn', hab]
  have hl2 : (T.natAbs * n).log2 ≤ 54 + n.log2 := by
    have : (T.natAbs * n).log2 < 55 + n.log2 := by
      rw [Nat.log2_lt hTn']
      have h1 : n < 2 ^ (n.log2 + 1) := Nat.lt_log2_self
      have h2 : T.natAbs * n < 2 ^ 54 * 2 ^ (n.log2 + 1) :=
        Nat.lt_of_le_of_lt (Nat.mul_le_mul_right n (Nat.le_trans hb (Nat.pow_le_pow_right (by omega) (by omega)))) (Nat.mul_lt_mul_of_pos_left h1 (Nat.two_pow_pos _))
      rw [← Nat.pow_add] at h2
      rw [show 55 + n.log2 = 54 + (n.log2 + 1) by omega]
      exact h2
    omega
  have hl3 : n.log2 ≤ (T.natAbs * n).log2 := by
    rw [Nat.le_log2 hTn']
    exact Nat.le_trans (Nat.log2_self_le hn) (Nat.le_mul_of_pos_left _ (by omega))
  have hm53 : m.log2 < 53 := (Nat.log2_lt hm).2 p1.2.1
  obtain ⟨g, hg⟩ : ∃ g, g = 54 + n.log2 - m.log2 := ⟨_, rfl⟩
  rw [← hg] at hr
  have hgj : ((g : Int) + j - i).toNat = g + (j + 1074).toNat - (i + 1074).toNat := by omega
  have hdiv : m <<< g = T.natAbs * 2 ^ ((g : Int) + j - i).toNat * n := by
    rw [Nat.shiftLeft_eq]
    refine Nat.eq_of_mul_eq_mul_right (Nat.two_pow_pos (i + 1074).toNat) ?_
    have e1 : m * 2 ^ g * 2 ^ (i + 1074).toNat = m * 2 ^ (i + 1074).toNat * 2 ^ g := Nat.mul_right_comm _ _ _
    rw [e1, hab]
    have e2 : 2 ^ (j + 1074).toNat * 2 ^ g = 2 ^ ((g : Int) + j - i).toNat * 2 ^ (i + 1074).toNat := by
      rw [← Nat.pow_add, ← Nat.pow_add]
      congr 1
      omega
    rw [Nat.mul_assoc, e2, ← Nat.mul_assoc]
    congr 1
    exact Nat.mul_right_comm _ _ _
  rw [hdiv, Nat.mul_div_cancel _ (by omega), Nat.mul_mod_left] at hr
  have hr : r = double.nearest (s ^^ t) (2 * (T.natAbs * 2 ^ ((g : Int) + j - i).toNat)) (i - j - (g : Int) - 1) := hr
  have hs := xor_sign (key_sign rx) (key_sign ry)
  have sgn : key x * key y = T * (key y * key y) := by rw [hk, Int.mul_assoc]
  have hyy : 0 < key y * key y := by
    rcases Int.lt_trichotomy (key y) 0 with c | c | c
    · exact Int.mul_pos_of_neg_of_neg c c
    · exact absurd c h0
    · exact Int.mul_pos c c
  rw [sgn] at hs
  have hst : (T < 0 → (s ^^ t) = true) ∧ (0 < T → (s ^^ t) = false) :=
    ⟨fun c => hs.1 (Int.mul_neg_of_neg_of_pos c hyy), fun c => hs.2 (Int.mul_pos c hyy)⟩
  have hU' : (0 : Int) < U := by omega
  have sg : ∀ {P : Int}, (P * U < 0 ↔ P < 0) ∧ (0 < P * U ↔ 0 < P) := fun {P} => by
    have a1 := @mulU_lt P 0
    have a2 := @mulU_lt 0 P
    rw [Int.zero_mul] at a1 a2
    exact ⟨a1, a2⟩
  have hlow : -1074 ≤ i - j - (g : Int) - 1 := by omega
  have hk : key r = T * U := by
    rw [hr]
    refine key_nearest hlow ?_ (by rw [mul_U_abs]; exact rep_whole hb) (fun c => hst.1 (sg.1.1 c)) (fun c => hst.2 (sg.2.1 c))
    rw [mul_U_abs]
    have hx : uExp = 1 + (((g : Int) + j - i).toNat + (i - j - (g : Int) - 1 + 1074).toNat) := by unfold uExp; omega
    rw [show U = 2 ^ uExp from rfl, hx]
    generalize ((g : Int) + j - i).toNat = A
    generalize (i - j - (g : Int) - 1 + 1074).toNat = B
    rw [Nat.pow_add, Nat.pow_add, Nat.pow_one, ← Nat.mul_assoc, ← Nat.mul_assoc, ← Nat.mul_assoc, Nat.mul_comm T.natAbs 2]
  exact isW_mk (by rw [hr]; exact nan_nearest _ _ _) hk hb
end Flo
