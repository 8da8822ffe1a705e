/-
  Floats, plainly: what a word stands for, as a whole number in units of the least place; the order.
-/
import Ieee.Arith
namespace Flo
open Ieee

theorem binade_d : double.binade = 2 ^ 52 := by decide
theorem infRung_d : double.infRung = 2047 * 2 ^ 52 := by decide
theorem signWeight_d : double.signWeight = 2 ^ 63 := by decide
theorem leastPlace_d : double.leastPlace = -1074 := by decide

theorem signed_eq (s : Bool) (m k : Nat) : signed s m k = (if s then -1 else 1) * ((m * 2 ^ k : Nat) : Int) := by
  unfold signed
  rw [Nat.shiftLeft_eq]
  cases s <;> simp
theorem signed_add (s : Bool) (m k c : Nat) : signed s m (k + c) = signed s m k * ((2 ^ c : Nat) : Int) := by
  rw [signed_eq, signed_eq, Nat.pow_add, ← Nat.mul_assoc, Int.natCast_mul, Int.mul_assoc]
theorem signed_opp (s : Bool) (m k : Nat) : signed (!s) m k = - signed s m k := by
  rw [signed_eq, signed_eq]
  cases s <;> simp
theorem signed_natAbs (s : Bool) (m k : Nat) : (signed s m k).natAbs = m * 2 ^ k := by
  rw [signed_eq]
  cases s
  · rw [if_neg (by decide), Int.one_mul, Int.natAbs_natCast]
  · rw [if_pos rfl, Int.neg_mul, Int.one_mul, Int.natAbs_neg, Int.natAbs_natCast]

/-- Above all finite numbers. -/
def bigE : Nat := 2200
def big : Nat := 2 ^ bigE
theorem big_pos : 0 < big := Nat.two_pow_pos _
theorem lt_gen {m k p q r : Nat} (hm : m < 2 ^ p) (hk : k ≤ q) (hr : p + q < r) : m * 2 ^ k < 2 ^ r := by
  have h6 : 2 ^ k ≤ 2 ^ q := Nat.pow_le_pow_right (by omega) hk
  have h7 : m * 2 ^ k ≤ 2 ^ p * 2 ^ q := Nat.mul_le_mul (Nat.le_of_lt hm) h6
  rw [← Nat.pow_add] at h7
  exact Nat.lt_of_le_of_lt h7 (Nat.pow_lt_pow_right (by omega) hr)
theorem lt_big {m k : Nat} (hm : m < 2 ^ 53) (hk : k ≤ 2046) : m * 2 ^ k < big := lt_gen hm hk (by unfold bigE; omega)
def inf : Int := (big : Int)
theorem inf_pos : 0 < inf := Int.natCast_pos.2 big_pos
/-- What a datum stands for, in units of the least place. -/
def dkey : Datum → Int
  | .number s m e => signed s m (e + 1074).toNat
  | .infinity s => if s then -inf else inf
  | .nan _ _ => 0
/-- A datum of the format, or near it. -/
def dok : Datum → Prop
  | .number _ m e => -1074 ≤ e ∧ m * 2 ^ (e + 1074).toNat < big
  | .infinity _ => True
  | .nan _ _ => False

theorem compare_mul (a b : Int) {c : Nat} (hc : 0 < c) : compare (a * (c : Int)) (b * (c : Int)) = compare a b := by
  have hc' : (0 : Int) < (c : Int) := by omega
  rcases Int.lt_trichotomy a b with h | h | h
  · rw [Int.compare_eq_lt.2 h, Int.compare_eq_lt.2 (Int.mul_lt_mul_of_pos_right h hc')]
  · rw [h, Int.compare_eq_eq.2 rfl, Int.compare_eq_eq.2 rfl]
  · rw [Int.compare_eq_gt.2 h, Int.compare_eq_gt.2 (Int.mul_lt_mul_of_pos_right h hc')]
theorem dkey_bd {s : Bool} {m : Nat} {e : Int} (h : dok (.number s m e)) : -inf < dkey (.number s m e) ∧ dkey (.number s m e) < inf := by
  have h1 := signed_natAbs s m (e + 1074).toNat
  have h2 := h.2
  rw [← h1] at h2
  have h3 : dkey (.number s m e) = signed s m (e + 1074).toNat := rfl
  rw [h3]
  unfold inf
  omega
theorem key_num (s : Bool) (m : Nat) (e : Int) : dkey (.number s m e) = signed s m (e + 1074).toNat := rfl
theorem key_inf (s : Bool) : dkey (.infinity s) = if s then -inf else inf := rfl
theorem order_nn (s t : Bool) (m n : Nat) (i j : Int) (h1 : -1074 ≤ i) (h2 : -1074 ≤ j) : (Datum.number s m i).order (.number t n j) = some (compare (dkey (.number s m i)) (dkey (.number t n j))) := by
  have e1 : (i + 1074).toNat = (i - min i j).toNat + (min i j + 1074).toNat := by omega
  have e2 : (j + 1074).toNat = (j - min i j).toNat + (min i j + 1074).toNat := by omega
  rw [key_num, key_num, e1, e2, signed_add, signed_add, compare_mul _ _ (Nat.two_pow_pos _)]
  rfl
theorem order_ni (d : Datum) (t : Bool) (s : Bool) (m : Nat) (i : Int) (hd : d = .number s m i) (h1 : -inf < dkey d ∧ dkey d < inf) : d.order (.infinity t) = some (compare (dkey d) (dkey (.infinity t))) := by
  rw [key_inf]
  generalize hk : dkey d = k at *
  subst hd
  cases t
  · rw [Int.compare_eq_lt.2 (by simpa using h1.2)]; rfl
  · rw [Int.compare_eq_gt.2 (by simpa using h1.1)]; rfl
theorem order_in (d : Datum) (t : Bool) (s : Bool) (m : Nat) (i : Int) (hd : d = .number s m i) (h1 : -inf < dkey d ∧ dkey d < inf) : (Datum.infinity t).order d = some (compare (dkey (.infinity t)) (dkey d)) := by
  rw [key_inf]
  generalize hk : dkey d = k at *
  subst hd
  cases t
  · rw [Int.compare_eq_gt.2 (by simpa using h1.2)]; rfl
  · rw [Int.compare_eq_lt.2 (by simpa using h1.1)]; rfl
theorem order_ii (s t : Bool) : (Datum.infinity s).order (.infinity t) = some (compare (dkey (.infinity s)) (dkey (.infinity t))) := by
  have hinf := inf_pos
  rw [key_inf, key_inf]
  generalize inf = B at *
  cases s <;> cases t
  · rw [Int.compare_eq_eq.2 rfl]; rfl
  · rw [Int.compare_eq_gt.2 (by simp; omega)]; rfl
  · rw [Int.compare_eq_lt.2 (by simp; omega)]; rfl
  · rw [Int.compare_eq_eq.2 rfl]; rfl
theorem order_key {d e : Datum} (hd : dok d) (he : dok e) : d.order e = some (compare (dkey d) (dkey e)) := by
  cases d with
  | number s m i =>
    cases e with
    | number t n j => exact order_nn s t m n i j hd.1 he.1
    | infinity t => exact order_ni _ t s m i rfl (dkey_bd hd)
    | nan => exact he.elim
  | infinity s =>
    cases e with
    | number t n j => exact order_in _ s t n j rfl (dkey_bd he)
    | infinity t => exact order_ii s t
    | nan => exact he.elim
  | nan => exact hd.elim

/-- Is a word no number? -/
def isNaN (x : Nat) : Bool := (double.read x).isNaN
/-- What a word stands for. -/
def key (x : Nat) : Int := dkey (double.read x)
theorem read_ok (x : Nat) (h : isNaN x = false) : dok (double.read x) := by
  unfold isNaN at h
  unfold Format.read at h ⊢
  rw [binade_d, infRung_d, signWeight_d, leastPlace_d] at *
  simp only at h ⊢
  split
  · rename_i h1
    exact ⟨by omega, lt_big (by omega) (by omega)⟩
  · rename_i h1
    split
    · rename_i h2
      refine ⟨by omega, ?_⟩
      exact lt_big (by omega) (by omega)
    · rename_i h2
      split
      · trivial
      · rename_i h3
        rw [if_neg h1, if_neg h2, if_neg h3] at h
        simp [Datum.isNaN] at h
theorem order_ok {x y : Nat} (hx : isNaN x = false) (hy : isNaN y = false) : double.order x y = some (compare (key x) (key y)) := order_key (read_ok x hx) (read_ok y hy)
theorem nan_form {d : Datum} (h : d.isNaN = true) : ∃ s t, d = .nan s t := by
  cases d <;> simp [Datum.isNaN] at h
  exact ⟨_, _, rfl⟩
theorem order_nan_l {x y : Nat} (hx : isNaN x = true) : double.order x y = none := by
  obtain ⟨s, t, h⟩ := nan_form hx
  unfold Format.order
  rw [h]
  rfl
theorem order_nan_r {x y : Nat} (hy : isNaN y = true) : double.order x y = none := by
  obtain ⟨s, t, h⟩ := nan_form hy
  unfold Format.order
  rw [h]
  cases double.read x <;> rfl
end Flo
