/-
  Floats, plainly: opposites; sums, differences, products that the format has.
-/
import Derived.Test.YtkbcdfniocmamaaFloD
namespace Flo
open Ieee

/-- The other sign. -/
def neg (x : Nat) : Nat := x ^^^ 2 ^ 63
theorem neg_mod (x : Nat) : neg x % 2 ^ 63 = x % 2 ^ 63 := by
  unfold neg
  rw [Nat.xor_mod_two_pow, Nat.mod_self, Nat.xor_zero]
theorem neg_bit (x : Nat) : (neg x / 2 ^ 63 % 2 == 1) = !(x / 2 ^ 63 % 2 == 1) := by
  unfold neg
  rw [Nat.xor_div_two_pow, Nat.div_self (Nat.two_pow_pos _)]
  have h := Nat.xor_mod_two_pow (a := x / 2 ^ 63) (b := 1) (n := 1)
  rw [Nat.pow_one] at h
  rw [h]
  rcases Nat.mod_two_eq_zero_or_one (x / 2 ^ 63) with h | h <;> rw [h] <;> rfl
theorem read_neg (x : Nat) : double.read (neg x) = (double.read x).opposite := by
  rw [read_def, read_def, neg_mod, neg_bit]
  split
  · rfl
  · split
    · rfl
    · split <;> rfl
theorem dkey_opp (d : Datum) : dkey d.opposite = - dkey d := by
  cases d with
  | number s m e => exact signed_opp s m _
  | infinity s =>
    show dkey (.infinity (!s)) = _
    rw [key_inf, key_inf]
    cases s <;> simp
  | nan s t => rfl
theorem nan_neg (x : Nat) : isNaN (neg x) = isNaN x := by
  unfold isNaN
  rw [read_neg]
  cases double.read x <;> rfl
theorem key_neg (x : Nat) : key (neg x) = - key x := by
  unfold key
  rw [read_neg, dkey_opp]
/-- A finite number, taken apart. -/
theorem read_num {x : Nat} {s : Bool} {m : Nat} {e : Int} (h : double.read x = .number s m e) : -1074 ≤ e ∧ m < 2 ^ 53 ∧ (e + 1074).toNat ≤ 2045 := by
  rw [read_def] at h
  split at h
  · rename_i h1
    injection h with _ hm he
    omega
  · split at h
    · rename_i h1 h2
      injection h with _ hm he
      omega
    · split at h <;> cases h
/-- The format has it. -/
def Rep (V : Nat) : Prop := 2 ^ (V.log2 - 52) ∣ V ∧ V.log2 ≤ 2097
theorem rep_mul {m k : Nat} (hm : m < 2 ^ 53) (hk : k ≤ 2045) : Rep (m * 2 ^ k) := by
  by_cases h0 : m = 0
  · subst h0
    unfold Rep
    rw [Nat.zero_mul]
    exact ⟨by simp, by decide⟩
  · have h1 : m.log2 < 53 := (Nat.log2_lt h0).2 hm
    unfold Rep
    rw [log2_mul_pow m k h0]
    refine ⟨?_, by omega⟩
    exact Nat.dvd_trans (Nat.pow_dvd_pow 2 (by omega)) (Nat.dvd_mul_left _ _)
theorem rep_key {x : Nat} {s : Bool} {m : Nat} {e : Int} (h : double.read x = .number s m e) : Rep (key x).natAbs := by
  obtain ⟨h1, h2, h3⟩ := read_num h
  unfold key
  rw [h, key_num, signed_natAbs]
  exact rep_mul h2 h3
/-- What is rounded to what the format has: itself. -/
theorem key_nearest {T : Int} {z : Bool} {m : Nat} {e : Int} (he : -1074 ≤ e) (hV : T.natAbs = m * 2 ^ (e + 1074).toNat) (hr : Rep T.natAbs) (hz : T < 0 → z = true) (hz' : 0 < T → z = false) : key (double.nearest z m e) = T := by
  rw [nearest_exact z m e he _ hV hr.1 hr.2]
  rcases Int.lt_trichotomy T 0 with h | h | h
  · rw [hz h]; simp; omega
  · rw [h]; simp
  · rw [hz' h]; simp; omega
theorem signed_key {s : Bool} {m : Nat} {i base : Int} (h1 : -1074 ≤ base) (h2 : base ≤ i) : signed s m (i - base).toNat * ((2 ^ (base + 1074).toNat : Nat) : Int) = dkey (.number s m i) := by
  rw [key_num, ← signed_add]
  congr 1
  omega
theorem sum_exact {d e : Datum} {s t : Bool} {m n : Nat} {i j : Int} (hd : d = .number s m i) (he : e = .number t n j) (h1 : -1074 ≤ i) (h2 : -1074 ≤ j) (hr : Rep (dkey d + dkey e).natAbs) {o : Datum} (h : d.sum e = some o) : isNaN (double.write o) = false ∧ key (double.write o) = dkey d + dkey e := by
  subst hd he
  unfold Datum.sum at h
  simp only at h
  injection h with h
  subst h
  refine ⟨nan_nearest _ _ _, ?_⟩
  have e1 := signed_key (s := s) (m := m) (i := i) (base := min i j) (by omega) (by omega)
  have e2 := signed_key (s := t) (m := n) (i := j) (base := min i j) (by omega) (by omega)
  rw [← e1, ← e2, ← Int.add_mul] at hr ⊢
  generalize signed s m (i - min i j).toNat + signed t n (j - min i j).toNat = T at *
  have hp : (0 : Int) < ((2 ^ (min i j + 1074).toNat : Nat) : Int) := Int.natCast_pos.2 (Nat.two_pow_pos _)
  refine key_nearest (by omega) ?_ hr ?_ ?_
  · rw [Int.natAbs_mul, Int.natAbs_natCast]
  · intro h
    have : T < 0 := by
      rcases Int.lt_or_le T 0 with h3 | h3
      · exact h3
      · have := Int.mul_nonneg h3 (Int.le_of_lt hp); omega
    rw [if_neg (by omega), decide_eq_true this]
  · intro h
    have : 0 < T := by
      rcases Int.lt_or_le 0 T with h3 | h3
      · exact h3
      · have := Int.mul_nonneg (a := -T) (by omega) (Int.le_of_lt hp)
        rw [Int.neg_mul] at this; omega
    rw [if_neg (by omega), decide_eq_false (by omega)]
theorem sum_some {s t : Bool} {m n : Nat} {i j : Int} : ∃ o, (Datum.number s m i).sum (.number t n j) = some o := ⟨_, rfl⟩
/-- A number, not infinite. -/
def Num (x : Nat) : Prop := ∃ s m e, double.read x = .number s m e
theorem Num.nan {x : Nat} (h : Num x) : isNaN x = false := by
  obtain ⟨s, m, e, h⟩ := h
  unfold isNaN; rw [h]; rfl
theorem Num.rep {x : Nat} (h : Num x) : Rep (key x).natAbs := by
  obtain ⟨s, m, e, h⟩ := h
  exact rep_key h
theorem Num.neg {x : Nat} (h : Num x) : Num (neg x) := by
  obtain ⟨s, m, e, h⟩ := h
  exact ⟨!s, m, e, by rw [read_neg, h]; rfl⟩
theorem add_exact {x y r : Nat} (hx : Num x) (hy : Num y) (h : Gives (double.add x y) r) (hr : Rep (key x + key y).natAbs) : isNaN r = false ∧ key r = key x + key y := by
  obtain ⟨s, m, i, hx⟩ := hx
  obtain ⟨t, n, j, hy⟩ := hy
  obtain ⟨o, ho⟩ := sum_some (s := s) (t := t) (m := m) (n := n) (i := i) (j := j)
  unfold Format.add at h
  rw [hx, hy, ho] at h
  have h : r = double.write o := h
  rw [h]
  exact sum_exact (d := double.read x) (e := double.read y) hx hy (read_num hx).1 (read_num hy).1 hr (by rw [hx, hy, ho])
theorem sub_exact {x y r : Nat} (hx : Num x) (hy : Num y) (h : Gives (double.sub x y) r) (hr : Rep (key x - key y).natAbs) : isNaN r = false ∧ key r = key x - key y := by
  have h : Gives (double.add x (Flo.neg y)) r := by
    unfold Format.add
    rw [read_neg]
    exact h
  have := add_exact hx hy.neg h (by rw [key_neg]; exact hr)
  rw [key_neg] at this
  exact this
theorem num_zero : Num 0 := ⟨false, 0, -1074, by decide⟩
theorem key_zero : key 0 = 0 := by decide
theorem num_or {x : Nat} (h : isNaN x = false) : Num x ∨ ∃ s, double.read x = .infinity s := by
  cases hr : double.read x with
  | number s m e => exact .inl ⟨s, m, e, hr⟩
  | infinity s => exact .inr ⟨s, rfl⟩
  | nan s t => unfold isNaN at h; rw [hr] at h; simp [Datum.isNaN] at h
/-- Nought less a number: its opposite. -/
theorem zero_sub {x r : Nat} (hx : isNaN x = false) (h : Gives (double.sub 0 x) r) : isNaN r = false ∧ key r = - key x := by
  rcases num_or hx with hn | ⟨s, hs⟩
  · have := sub_exact num_zero hn h (by rw [key_zero, Int.zero_sub, Int.natAbs_neg]; exact hn.rep)
    rw [key_zero, Int.zero_sub] at this
    exact this
  · unfold Format.sub at h
    obtain ⟨t, m, e, h0⟩ := num_zero
    rw [h0, hs] at h
    have h : r = double.word (!s) double.infRung := h
    rw [infRung_d] at h
    rw [h, (key_word_inf (!s)).2]
    refine ⟨(key_word_inf (!s)).1, ?_⟩
    unfold key
    rw [hs, key_inf]
    cases s <;> simp
end Flo
