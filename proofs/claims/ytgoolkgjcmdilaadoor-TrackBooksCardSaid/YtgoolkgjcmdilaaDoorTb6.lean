/-
  Tb, part 6 of 36: the texts Flo.
-/
import Ieee.Arith
import GoSem.Core.Float
import Derived.Laws.FloatBits
import Derived.Laws.FloatArith
import Derived.Laws.Cover2
section
namespace Flo
open Ieee
theorem binade_d : double.binade = 2 ^ 52 := by decide
theorem infRung_d : double.infRung = 2047 * 2 ^ 52 := by decide
theorem signWeight_d : double.signWeight = 2 ^ 63 := by decide
theorem leastPlace_d : double.leastPlace = -1074 := by decide
theorem signed_eq (s : Bool) (m k : Nat) : signed s m k = (if s then -1 else 1) * ((m * 2 ^ k : Nat) : Int) := by
  unfold signed
  rw [Nat.shiftLeft_eq]
  cases s <;> simp
theorem signed_add (s : Bool) (m k c : Nat) : signed s m (k + c) = signed s m k * ((2 ^ c : Nat) : Int) := by
  rw [signed_eq, signed_eq, Nat.pow_add, ← Nat.mul_assoc, Int.natCast_mul, Int.mul_assoc]
theorem signed_natAbs (s : Bool) (m k : Nat) : (signed s m k).natAbs = m * 2 ^ k := by
  rw [signed_eq]
  cases s
  · rw [if_neg (by decide), Int.one_mul, Int.natAbs_natCast]
  · rw [if_pos rfl, Int.neg_mul, Int.one_mul, Int.natAbs_neg, Int.natAbs_natCast]
/-- Above all finite numbers. -/
def bigE : Nat := 2200
def big : Nat := 2 ^ bigE
theorem big_pos : 0 < big := Nat.two_pow_pos _
theorem lt_gen {m k p q r : Nat} (hm : m < 2 ^ p) (hk : k ≤ q) (hr : p + q < r) : m * 2 ^ k < 2 ^ r := by
  have h6 : 2 ^ k ≤ 2 ^ q := Nat.pow_le_pow_right (by omega) hk
  have h7 : m * 2 ^ k ≤ 2 ^ p * 2 ^ q := Nat.mul_le_mul (Nat.le_of_lt hm) h6
  rw [← Nat.pow_add] at h7
  exact Nat.lt_of_le_of_lt h7 (Nat.pow_lt_pow_right (by omega) hr)
theorem lt_big {m k : Nat} (hm : m < 2 ^ 53) (hk : k ≤ 2046) : m * 2 ^ k < big := lt_gen hm hk (by unfold bigE; omega)
def inf : Int := (big : Int)
theorem inf_pos : 0 < inf := Int.natCast_pos.2 big_pos
/-- What a datum stands for, in units of the least place. -/
def dkey : Datum → Int
  | .number s m e => signed s m (e + 1074).toNat
  | .infinity s => if s then -inf else inf
  | .nan _ _ => 0
/-- A datum of the format, or near it. -/
def dok : Datum → Prop
  | .number _ m e => -1074 ≤ e ∧ m * 2 ^ (e + 1074).toNat < big
  | .infinity _ => True
  | .nan _ _ => False
theorem compare_mul (a b : Int) {c : Nat} (hc : 0 < c) : compare (a * (c : Int)) (b * (c : Int)) = compare a b := by
  have hc' : (0 : Int) < (c : Int) := by omega
  rcases Int.lt_trichotomy a b with h | h | h
  · rw [Int.compare_eq_lt.2 h, Int.compare_eq_lt.2 (Int.mul_lt_mul_of_pos_right h hc')]
  · rw [h, Int.compare_eq_eq.2 rfl, Int.compare_eq_eq.2 rfl]
  · rw [Int.compare_eq_gt.2 h, Int.compare_eq_gt.2 (Int.mul_lt_mul_of_pos_right h hc')]
theorem dkey_bd {s : Bool} {m : Nat} {e : Int} (h : dok (.number s m e)) : -inf < dkey (.number s m e) ∧ dkey (.number s m e) < inf := by
  have h1 := signed_natAbs s m (e + 1074).toNat
  have h2 := h.2
  rw [← h1] at h2
  have h3 : dkey (.number s m e) = signed s m (e + 1074).toNat := rfl
  rw [h3]
  unfold inf
  omega
theorem key_num (s : Bool) (m : Nat) (e : Int) : dkey (.number s m e) = signed s m (e + 1074).toNat := rfl
theorem key_inf (s : Bool) : dkey (.infinity s) = if s then -inf else inf := rfl
theorem order_nn (s t : Bool) (m n : Nat) (i j : Int) (h1 : -1074 ≤ i) (h2 : -1074 ≤ j) : (Datum.number s m i).order (.number t n j) = some (compare (dkey (.number s m i)) (dkey (.number t n j))) := by
  have e1 : (i + 1074).toNat = (i - min i j).toNat + (min i j + 1074).toNat := by omega
  have e2 : (j + 1074).toNat = (j - min i j).toNat + (min i j + 1074).toNat := by omega
  rw [key_num, key_num, e1, e2, signed_add, signed_add, compare_mul _ _ (Nat.two_pow_pos _)]
  rfl
theorem order_ni (d : Datum) (t : Bool) (s : Bool) (m : Nat) (i : Int) (hd : d = .number s m i) (h1 : -inf < dkey d ∧ dkey d < inf) : d.order (.infinity t) = some (compare (dkey d) (dkey (.infinity t))) := by
  rw [key_inf]
  generalize hk : dkey d = k at *
  subst hd
  cases t
  · rw [Int.compare_eq_lt.2 (by simpa using h1.2)]; rfl
  · rw [Int.compare_eq_gt.2 (by simpa using h1.1)]; rfl
theorem order_in (d : Datum) (t : Bool) (s : Bool) (m : Nat) (i : Int) (hd : d = .number s m i) (h1 : -inf < dkey d ∧ dkey d < inf) : (Datum.infinity t).order d = some (compare (dkey (.infinity t)) (dkey d)) := by
  rw [key_inf]
  generalize hk : dkey d = k at *
  subst hd
  cases t
  · rw [Int.compare_eq_gt.2 (by simpa using h1.2)]; rfl
  · rw [Int.compare_eq_lt.2 (by simpa using h1.1)]; rfl
theorem order_ii (s t : Bool) : (Datum.infinity s).order (.infinity t) = some (compare (dkey (.infinity s)) (dkey (.infinity t))) := by
  have hinf := inf_pos
  rw [key_inf, key_inf]
  generalize inf = B at *
  cases s <;> cases t
  · rw [Int.compare_eq_eq.2 rfl]; rfl
  · rw [Int.compare_eq_gt.2 (by simp; omega)]; rfl
  · rw [Int.compare_eq_lt.2 (by simp; omega)]; rfl
  · rw [Int.compare_eq_eq.2 rfl]; rfl
theorem order_key {d e : Datum} (hd : dok d) (he : dok e) : d.order e = some (compare (dkey d) (dkey e)) := by
  cases d with
  | number s m i =>
    cases e with
    | number t n j => exact order_nn s t m n i j hd.1 he.1
    | infinity t => exact order_ni _ t s m i rfl (dkey_bd hd)
    | nan => exact he.elim
  | infinity s =>
    cases e with
    | number t n j => exact order_in _ s t n j rfl (dkey_bd he)
    | infinity t => exact order_ii s t
    | nan => exact he.elim
  | nan => exact hd.elim
/-- Is a word no number? -/
def isNaN (x : Nat) : Bool := (double.read x).isNaN
/-- What a word stands for. -/
def key (x : Nat) : Int := dkey (double.read x)
theorem read_ok (x : Nat) (h : isNaN x = false) : dok (double.read x) := by
  unfold isNaN at h
  unfold Format.read at h ⊢
  rw [binade_d, infRung_d, signWeight_d, leastPlace_d] at *
  simp only at h ⊢
  split
  · rename_i h1
    exact ⟨by omega, lt_big (by omega) (by omega)⟩
  · rename_i h1
    split
    · rename_i h2
      refine ⟨by omega, ?_⟩
      exact lt_big (by omega) (by omega)
    · rename_i h2
      split
      · trivial
      · rename_i h3
        rw [if_neg h1, if_neg h2, if_neg h3] at h
        simp [Datum.isNaN] at h
theorem order_ok {x y : Nat} (hx : isNaN x = false) (hy : isNaN y = false) : double.order x y = some (compare (key x) (key y)) := order_key (read_ok x hx) (read_ok y hy)
theorem nan_form {d : Datum} (h : d.isNaN = true) : ∃ s t, d = .nan s t := by
  cases d <;> simp [Datum.isNaN] at h
  exact ⟨_, _, rfl⟩
theorem order_nan_l {x y : Nat} (hx : isNaN x = true) : double.order x y = none := by
  obtain ⟨s, t, h⟩ := nan_form hx
  unfold Format.order
  rw [h]
  rfl
theorem read_def (x : Nat) : double.read x = (if x % 2 ^ 63 < 2 ^ 52 then Datum.number (x / 2 ^ 63 % 2 == 1) (x % 2 ^ 63) (-1074)
    else if x % 2 ^ 63 < 2047 * 2 ^ 52 then .number (x / 2 ^ 63 % 2 == 1) (2 ^ 52 + x % 2 ^ 63 % 2 ^ 52) (-1074 + (x % 2 ^ 63 / 2 ^ 52 - 1 : Nat))
    else if x % 2 ^ 63 = 2047 * 2 ^ 52 then .infinity (x / 2 ^ 63 % 2 == 1) else .nan (x / 2 ^ 63 % 2 == 1) (x % 2 ^ 63 - 2047 * 2 ^ 52)) := by
  unfold Format.read
  rw [binade_d, infRung_d, signWeight_d, leastPlace_d]
theorem word_def (s : Bool) (r : Nat) : double.word s r = if s then 2 ^ 63 + r else r := by
  unfold Format.word
  rw [signWeight_d]
theorem read_word (s : Bool) (r : Nat) (h : r ≤ 2047 * 2 ^ 52) : double.read (double.word s r) = (if r < 2 ^ 52 then Datum.number s r (-1074)
    else if r < 2047 * 2 ^ 52 then .number s (2 ^ 52 + r % 2 ^ 52) (-1074 + (r / 2 ^ 52 - 1 : Nat)) else .infinity s) := by
  rw [read_def, word_def]
  cases s
  · have h1 : r % 2 ^ 63 = r := by omega
    have h2 : (r / 2 ^ 63 % 2 == 1) = false := by rw [beq_eq_false_iff_ne]; omega
    simp only [Bool.false_eq_true, if_false, h1, h2]
    split
    · rfl
    · split
      · rfl
      · rw [if_pos (by omega)]
  · have h1 : (2 ^ 63 + r) % 2 ^ 63 = r := by omega
    have h2 : ((2 ^ 63 + r) / 2 ^ 63 % 2 == 1) = true := by rw [beq_iff_eq]; omega
    simp only [if_true, h1, h2]
    split
    · rfl
    · split
      · rfl
      · rw [if_pos (by omega)]
theorem log2_mul_pow (m k : Nat) (h : m ≠ 0) : (m * 2 ^ k).log2 = m.log2 + k := by
  have hn : m * 2 ^ k ≠ 0 := Nat.mul_ne_zero h (Nat.ne_of_gt (Nat.two_pow_pos _))
  have h1 : m.log2 + k ≤ (m * 2 ^ k).log2 := by
    rw [Nat.le_log2 hn, Nat.pow_add]
    exact Nat.mul_le_mul_right _ (Nat.log2_self_le h)
  have h2 : (m * 2 ^ k).log2 < m.log2 + k + 1 := by
    rw [Nat.log2_lt hn, show m.log2 + k + 1 = (m.log2 + 1) + k by omega, Nat.pow_add]
    exact Nat.mul_lt_mul_of_pos_right Nat.lt_log2_self (Nat.two_pow_pos _)
  omega
/-- Nothing is dropped. -/
theorem cut_even (s : Bool) (n q : Nat) (h : 2 ^ q ∣ n) (hn : n ≠ 0) : Toward.even.cut s n q = n / 2 ^ q := by
  have h1 : q ≤ n.log2 := by
    rw [Nat.le_log2 hn]
    exact Nat.le_of_dvd (by omega) h
  unfold Toward.cut
  simp only
  rw [Nat.min_eq_left (by omega), Nat.shiftLeft_eq, Nat.one_mul, Nat.mod_eq_zero_of_dvd h]
  have h2 : 0 < 2 ^ q := Nat.two_pow_pos _
  simp
/-- What an operation may give: its word; or no number, where it has none. -/
def Gives (o : Option Nat) (r : Nat) : Prop := match o with
  | some b => r = b
  | none => isNaN r = true ∧ r < 2 ^ 64
/-- The same word, or no number both. -/
def FE (x y : Nat) : Prop := x = y ∨ (isNaN x = true ∧ isNaN y = true)
theorem FE.refl (x : Nat) : FE x x := .inl rfl
theorem FE.symm {x y : Nat} (h : FE x y) : FE y x := h.elim (fun h => .inl h.symm) (fun h => .inr ⟨h.2, h.1⟩)
theorem FE.trans {x y z : Nat} (h : FE x y) (k : FE y z) : FE x z := by
  rcases h with rfl | ⟨h1, h2⟩
  · exact k
  · rcases k with rfl | ⟨k1, k2⟩
    · exact .inr ⟨h1, h2⟩
    · exact .inr ⟨h1, k2⟩
theorem FE.nan {x y : Nat} (h : FE x y) : isNaN x = isNaN y := by
  rcases h with rfl | ⟨h1, h2⟩
  · rfl
  · rw [h1, h2]
theorem Gives.fe {o : Option Nat} {r r' : Nat} (h : Gives o r) (h' : Gives o r') : FE r r' := by
  cases o with
  | some b => exact .inl (Eq.trans h (Eq.symm h'))
  | none => exact .inr ⟨h.1, h'.1⟩
section
variable {x y x' y' : Nat}
theorem sum_nan (h : isNaN x = true ∨ isNaN y = true) : (double.read x).sum (double.read y) = none := by
  rcases h with h | h
  · obtain ⟨s, t, e⟩ := nan_form h
    rw [e]; rfl
  · obtain ⟨s, t, e⟩ := nan_form h
    rw [e]; cases double.read x <;> rfl
theorem add_nan (h : isNaN x = true ∨ isNaN y = true) : double.add x y = none := by
  unfold Format.add; rw [sum_nan h]; rfl
theorem sub_nan (h : isNaN x = true ∨ isNaN y = true) : double.sub x y = none := by
  unfold Format.sub
  rcases h with h | h
  · obtain ⟨s, t, e⟩ := nan_form h
    rw [e]; rfl
  · obtain ⟨s, t, e⟩ := nan_form h
    rw [e]; cases double.read x <;> rfl
theorem mul_nan (h : isNaN x = true ∨ isNaN y = true) : double.mul x y = none := by
  unfold Format.mul
  rcases h with h | h
  · obtain ⟨s, t, e⟩ := nan_form h
    rw [e]; rfl
  · obtain ⟨s, t, e⟩ := nan_form h
    rw [e]; cases double.read x <;> rfl
theorem div_nan (h : isNaN x = true ∨ isNaN y = true) : double.div x y = none := by
  unfold Format.div
  rcases h with h | h
  · obtain ⟨s, t, e⟩ := nan_form h
    rw [e]; rfl
  · obtain ⟨s, t, e⟩ := nan_form h
    rw [e]; cases double.read x <;> rfl
theorem two_fe {f : Nat → Nat → Option Nat} (hf : ∀ {x y : Nat}, isNaN x = true ∨ isNaN y = true → f x y = none) {r r' : Nat} (hx : FE x x') (hy : FE y y') (h : Gives (f x y) r) (h' : Gives (f x' y') r') : FE r r' := by
  rcases hx with rfl | ⟨h1, h2⟩
  · rcases hy with rfl | ⟨k1, k2⟩
    · exact h.fe h'
    · rw [hf (.inr k1)] at h
      rw [hf (.inr k2)] at h'
      exact h.fe h'
  · rw [hf (.inl h1)] at h
    rw [hf (.inl h2)] at h'
    exact h.fe h'
theorem add_fe {r r' : Nat} (hx : FE x x') (hy : FE y y') (h : Gives (double.add x y) r) (h' : Gives (double.add x' y') r') : FE r r' := two_fe add_nan hx hy h h'
theorem sub_fe {r r' : Nat} (hx : FE x x') (hy : FE y y') (h : Gives (double.sub x y) r) (h' : Gives (double.sub x' y') r') : FE r r' := two_fe sub_nan hx hy h h'
theorem mul_fe {r r' : Nat} (hx : FE x x') (hy : FE y y') (h : Gives (double.mul x y) r) (h' : Gives (double.mul x' y') r') : FE r r' := two_fe mul_nan hx hy h h'
theorem div_fe {r r' : Nat} (hx : FE x x') (hy : FE y y') (h : Gives (double.div x y) r) (h' : Gives (double.div x' y') r') : FE r r' := two_fe div_nan hx hy h h'
/-- Go's ==. -/
def feq (x y : Nat) : Bool := double.order x y == some .eq
theorem feq_self (x : Nat) : feq x x = !isNaN x := by
  unfold feq
  cases h : isNaN x with
  | true => rw [order_nan_l h]; rfl
  | false => rw [order_ok h h, Int.compare_eq_eq.2 rfl]; rfl
/-- Go's <, <=, >, >=. -/
def flt (x y : Nat) : Bool := double.order x y == some .lt
def fle (x y : Nat) : Bool := double.order x y == some .lt || double.order x y == some .eq
def fgt (x y : Nat) : Bool := double.order x y == some .gt
def fge (x y : Nat) : Bool := double.order x y == some .gt || double.order x y == some .eq
/-- Alike: equal, or no number both. -/
def alikeB (x y : Nat) : Bool := feq x y || (!feq x x && !feq y y)
theorem alikeB_fe (h : FE x y) : alikeB x y = true := by
  unfold alikeB
  rcases h with rfl | ⟨h1, h2⟩
  · rw [feq_self]; cases isNaN x <;> rfl
  · rw [feq_self, feq_self, h1, h2]; simp
end
/-- Not below nought, no NaN: what a square is. -/
def NN (x : Nat) : Prop := (∃ m e, double.read x = .number false m e) ∨ double.read x = .infinity false
theorem NN.nan {x : Nat} (h : NN x) : isNaN x = false := by
  unfold isNaN
  rcases h with ⟨m, e, h⟩ | h <;> rw [h] <;> rfl
/-- The other sign. -/
def neg (x : Nat) : Nat := x ^^^ 2 ^ 63
theorem neg_mod (x : Nat) : neg x % 2 ^ 63 = x % 2 ^ 63 := by
  unfold neg
  rw [Nat.xor_mod_two_pow, Nat.mod_self, Nat.xor_zero]
theorem neg_bit (x : Nat) : (neg x / 2 ^ 63 % 2 == 1) = !(x / 2 ^ 63 % 2 == 1) := by
  unfold neg
  rw [Nat.xor_div_two_pow, Nat.div_self (Nat.two_pow_pos _)]
  have h := Nat.xor_mod_two_pow (a := x / 2 ^ 63) (b := 1) (n := 1)
  rw [Nat.pow_one] at h
  rw [h]
  rcases Nat.mod_two_eq_zero_or_one (x / 2 ^ 63) with h | h <;> rw [h] <;> rfl
theorem read_neg (x : Nat) : double.read (neg x) = (double.read x).opposite := by
  rw [read_def, read_def, neg_mod, neg_bit]
  split
  · rfl
  · split
    · rfl
    · split <;> rfl
/-- A finite number, taken apart. -/
theorem read_num {x : Nat} {s : Bool} {m : Nat} {e : Int} (h : double.read x = .number s m e) : -1074 ≤ e ∧ m < 2 ^ 53 ∧ (e + 1074).toNat ≤ 2045 := by
  rw [read_def] at h
  split at h
  · rename_i h1
    injection h with _ hm he
    omega
  · split at h
    · rename_i h1 h2
      injection h with _ hm he
      omega
    · split at h <;> cases h
/-- A number, not infinite. -/
def Num (x : Nat) : Prop := ∃ s m e, double.read x = .number s m e
theorem Num.nan {x : Nat} (h : Num x) : isNaN x = false := by
  obtain ⟨s, m, e, h⟩ := h
  unfold isNaN; rw [h]; rfl
theorem Num.neg {x : Nat} (h : Num x) : Num (neg x) := by
  obtain ⟨s, m, e, h⟩ := h
  exact ⟨!s, m, e, by rw [read_neg, h]; rfl⟩
/-- One, in units of the least place. -/
def uExp : Nat := 1074
def U : Nat := 2 ^ uExp
theorem cut_re (s : Bool) (m k : Nat) : 2 * m ≤ 2 * (Toward.even.cut s m k * 2 ^ k) + 2 ^ k ∧ 2 * (Toward.even.cut s m k * 2 ^ k) ≤ 2 * m + 2 ^ k ∧
    (2 * m = 2 * (Toward.even.cut s m k * 2 ^ k) + 2 ^ k → Toward.even.cut s m k % 2 = 0) ∧ (2 * (Toward.even.cut s m k * 2 ^ k) = 2 * m + 2 ^ k → Toward.even.cut s m k % 2 = 0) := by
  have hl : m < 2 ^ (m.log2 + 1) := Nat.lt_log2_self
  unfold Toward.cut
  simp only [Nat.shiftLeft_eq, Nat.one_mul]
  by_cases hk : k ≤ m.log2 + 2
  · rw [Nat.min_eq_left hk]
    have hp : 0 < 2 ^ k := Nat.two_pow_pos _
    generalize 2 ^ k = g at *
    have h1 := Nat.div_add_mod m g
    have h2 := Nat.mod_lt m hp
    have hc : m / g * g = g * (m / g) := Nat.mul_comm _ _
    have hd : (m / g + 1) * g = g * (m / g) + g := by rw [Nat.add_mul, Nat.one_mul, hc]
    generalize m % g = r at *
    generalize hq : m / g = q at *
    generalize g * q = P at *
    by_cases c1 : g < 2 * r
    · have e : (decide (g < 2 * r) || (g == 2 * r && q % 2 == 1)) = true := by simp [c1]
      rw [e]
      simp only [Bool.toNat_true, hd]
      omega
    · by_cases c2 : g = 2 * r
      · by_cases c3 : q % 2 = 1
        · have e : (decide (g < 2 * r) || (g == 2 * r && q % 2 == 1)) = true := by simp [c2, c3]
          rw [e]
          simp only [Bool.toNat_true, hd]
          omega
        · have e : (decide (g < 2 * r) || (g == 2 * r && q % 2 == 1)) = false := by simp [c2]; omega
          rw [e]
          simp only [Bool.toNat_false, Nat.add_zero, hc]
          omega
      · have e : (decide (g < 2 * r) || (g == 2 * r && q % 2 == 1)) = false := by simp [c2]; omega
        rw [e]
        simp only [Bool.toNat_false, Nat.add_zero, hc]
        omega
  · rw [Nat.min_eq_right (by omega)]
    have h3 : 2 ^ (m.log2 + 2) = 2 * 2 ^ (m.log2 + 1) := by rw [Nat.pow_succ]; omega
    have h4 : 2 ^ (m.log2 + 2) ≤ 2 ^ k := Nat.pow_le_pow_right (by omega) (by omega)
    generalize hg : 2 ^ (m.log2 + 2) = g at *
    generalize 2 ^ k = K at *
    have h5 : m / g = 0 := Nat.div_eq_of_lt (by omega)
    have h6 : m % g = m := Nat.mod_eq_of_lt (by omega)
    rw [h5, h6]
    have e : (decide (g < 2 * m) || (g == 2 * m && 0 % 2 == 1)) = false := by simp; omega
    rw [e]
    simp only [Bool.toNat_false, Nat.add_zero, Nat.zero_mul]
    omega
/-- N is the whole number nearest to X / U, the even one of two. -/
def IsRE (X N : Int) : Prop := 2 * X ≤ 2 * (N * U) + U ∧ 2 * (N * U) ≤ 2 * X + U ∧ (2 * X = 2 * (N * U) + U → N % 2 = 0) ∧ (2 * (N * U) = 2 * X + U → N % 2 = 0)
theorem IsRE.neg {X N : Int} (h : IsRE X N) : IsRE (-X) (-N) := by
  unfold IsRE at *
  rw [Int.neg_mul]
  generalize (N * (U : Int)) = P at *
  omega
/-- A whole number as a float. -/
abbrev fl (n : Int) : Nat := Go.floatOfInt .f64 n
theorem fl_eq (n : Int) : fl n = double.nearest (decide (n < 0)) n.natAbs 0 := rfl
/-- No power of two is passed. -/
theorem round_above {V K p : Nat} (hv : 2 ^ p ≤ V) (h1 : 0 < V.log2 - 52 → 2 ^ 52 ≤ K) (h2 : V.log2 ≤ 52 → K = V) : 2 ^ p ≤ K * 2 ^ (V.log2 - 52) := by
  have hVn : V ≠ 0 := by have := Nat.two_pow_pos p; omega
  by_cases h : V.log2 ≤ 52
  · rw [h2 h, show V.log2 - 52 = 0 by omega, Nat.pow_zero, Nat.mul_one]
    exact hv
  · have k := Nat.mul_le_mul_right (2 ^ (V.log2 - 52)) (h1 (by omega))
    rw [← Nat.pow_add] at k
    exact Nat.le_trans (Nat.pow_le_pow_right (by omega) (show p ≤ 52 + (V.log2 - 52) by have := (Nat.le_log2 hVn).2 hv; omega)) k
end Flo
namespace Flo
open Ieee
theorem key_abs {x : Nat} {s : Bool} {m : Nat} {e : Int} (h : double.read x = .number s m e) : (key x).natAbs = m * 2 ^ (e + 1074).toNat := by
  unfold key
  rw [h, key_num, signed_natAbs]
theorem mul_form {x y r : Nat} {s t : Bool} {m n : Nat} {i j : Int} (hx : double.read x = .number s m i) (hy : double.read y = .number t n j) (h : Gives (double.mul x y) r) : r = double.nearest (s ^^ t) (m * n) (i + j) := by
  unfold Format.mul at h
  rw [hx, hy] at h
  exact h
theorem log_range {n p : Nat} (h1 : 2 ^ p ≤ n) (h2 : n < 2 ^ (p + 1)) : n.log2 = p := by
  have h0 : n ≠ 0 := by have := Nat.two_pow_pos p; omega
  have a := (Nat.le_log2 h0).2 h1
  have b := (Nat.log2_lt h0).2 h2
  omega
/-- The ratio of two neighbouring places, nearly. -/
def PP : Nat := 2 ^ 52
def SS : Nat := 2 ^ 52 + 1
/-- a and b are in a ratio within (SS / PP)^n of 1. -/
def Near (n a b : Nat) : Prop := a * PP ^ n ≤ b * SS ^ n ∧ b * PP ^ n ≤ a * SS ^ n
theorem Near.symm {n a b : Nat} (h : Near n a b) : Near n b a := ⟨h.2, h.1⟩
theorem Near.refl (n a : Nat) : Near n a a := by
  have : PP ^ n ≤ SS ^ n := Nat.pow_le_pow_left (by unfold PP SS; omega) n
  exact ⟨Nat.mul_le_mul_left _ this, Nat.mul_le_mul_left _ this⟩
theorem PP_pos (n : Nat) : 0 < PP ^ n := Nat.pow_pos (by unfold PP; omega)
theorem Near.trans {m n a b c : Nat} (h : Near m a b) (k : Near n b c) : Near (m + n) a c := by
  unfold Near at *
  rw [Nat.pow_add, Nat.pow_add]
  constructor
  · calc a * (PP ^ m * PP ^ n) = a * PP ^ m * PP ^ n := by rw [Nat.mul_assoc]
      _ ≤ b * SS ^ m * PP ^ n := Nat.mul_le_mul_right _ h.1
      _ = b * PP ^ n * SS ^ m := by rw [Nat.mul_right_comm]
      _ ≤ c * SS ^ n * SS ^ m := Nat.mul_le_mul_right _ k.1
      _ = c * (SS ^ m * SS ^ n) := by rw [Nat.mul_assoc, Nat.mul_comm (SS ^ n)]
  · calc c * (PP ^ m * PP ^ n) = c * PP ^ n * PP ^ m := by rw [Nat.mul_assoc, Nat.mul_comm (PP ^ n)]
      _ ≤ b * SS ^ n * PP ^ m := Nat.mul_le_mul_right _ k.2
      _ = b * PP ^ m * SS ^ n := by rw [Nat.mul_right_comm]
      _ ≤ a * SS ^ m * SS ^ n := Nat.mul_le_mul_right _ h.2
      _ = a * (SS ^ m * SS ^ n) := by rw [Nat.mul_assoc]
theorem Near.mul {m n a b c d : Nat} (h : Near m a b) (k : Near n c d) : Near (m + n) (a * c) (b * d) := by
  unfold Near at *
  rw [Nat.pow_add, Nat.pow_add]
  constructor
  · have := Nat.mul_le_mul h.1 k.1
    rw [Nat.mul_mul_mul_comm, Nat.mul_mul_mul_comm b] at this
    exact this
  · have := Nat.mul_le_mul h.2 k.2
    rw [Nat.mul_mul_mul_comm, Nat.mul_mul_mul_comm a] at this
    exact this
theorem Near.add {n a b c d : Nat} (h : Near n a b) (k : Near n c d) : Near n (a + c) (b + d) := by
  unfold Near at *
  rw [Nat.add_mul, Nat.add_mul, Nat.add_mul, Nat.add_mul]
  exact ⟨Nat.add_le_add h.1 k.1, Nat.add_le_add h.2 k.2⟩
theorem Near.mono {m n a b : Nat} (h : Near m a b) (hmn : m ≤ n) : Near n a b := by
  obtain ⟨k, rfl⟩ := Nat.le.dest hmn
  exact h.trans (Near.refl k b)
theorem Near.two {a b : Nat} (h : Near 12 a b) : a ≤ 2 * b ∧ b ≤ 2 * a := by
  unfold Near at h
  have hs : SS ^ 12 ≤ 2 * PP ^ 12 := by unfold SS PP; decide
  have hp := PP_pos 12
  generalize SS ^ 12 = s at *
  generalize PP ^ 12 = p at *
  constructor
  · have := Nat.le_trans h.1 (Nat.mul_le_mul_left b hs)
    rw [Nat.mul_left_comm, ← Nat.mul_assoc] at this
    exact Nat.le_of_mul_le_mul_right this hp
  · have := Nat.le_trans h.2 (Nat.mul_le_mul_left a hs)
    rw [Nat.mul_left_comm, ← Nat.mul_assoc] at this
    exact Nat.le_of_mul_le_mul_right this hp
theorem NN.key {x : Nat} (h : NN x) : 0 ≤ key x := by
  unfold Flo.key
  rcases h with ⟨m, e, h⟩ | h
  · rw [h, key_num, signed_eq, if_neg (by decide), Int.one_mul]
    exact Int.natCast_nonneg _
  · rw [h, key_inf, if_neg (by decide)]
    exact Int.le_of_lt inf_pos
def wB : Nat := 100
def WW : Nat := 2 ^ wB
/-- Neither great nor small. -/
def Mid (x : Nat) : Prop := Num x ∧ (key x ≠ 0 → U ≤ (key x).natAbs * WW) ∧ (key x).natAbs ≤ U * WW
theorem Mid.place {x : Nat} (h : Mid x) (h0 : key x ≠ 0) {s : Bool} {m : Nat} {i : Int} (hr : double.read x = .number s m i) : -153 ≤ i ∧ i ≤ 100 ∧ m ≠ 0 := by
  have ha := key_abs hr
  have h1 := h.2.1 h0
  have h2 := h.2.2
  have hm := (read_num hr).2.1
  have hlo := (read_num hr).1
  have hm0 : m ≠ 0 := by
    intro c
    rw [c, Nat.zero_mul] at ha
    omega
  rw [ha] at h1 h2
  refine ⟨?_, ?_, hm0⟩
  · rcases Int.lt_or_le i (-153) with c | c
    · exfalso
      have h3 : m * 2 ^ (i + 1074).toNat * WW < 2 ^ 53 * 2 ^ (i + 1074).toNat * WW := Nat.mul_lt_mul_of_pos_right (Nat.mul_lt_mul_of_pos_right hm (Nat.two_pow_pos _)) (Nat.two_pow_pos _)
      rw [show WW = 2 ^ wB from rfl, ← Nat.pow_add, ← Nat.pow_add] at h3
      have h4 : 2 ^ (53 + (i + 1074).toNat + wB) ≤ 2 ^ uExp := Nat.pow_le_pow_right (by omega) (by unfold wB uExp; omega)
      rw [show 2 ^ uExp = U from rfl] at h4
      rw [show WW = 2 ^ wB from rfl] at h1
      omega
    · exact c
  · rcases Int.lt_or_le 100 i with c | c
    · exfalso
      have h3 : 2 ^ (i + 1074).toNat ≤ m * 2 ^ (i + 1074).toNat := Nat.le_mul_of_pos_left _ (by omega)
      have h4 : 2 ^ (uExp + wB) < 2 ^ (i + 1074).toNat := Nat.pow_lt_pow_right (by omega) (by unfold wB uExp; omega)
      rw [Nat.pow_add, show 2 ^ uExp = U from rfl, show 2 ^ wB = WW from rfl] at h4
      omega
    · exact c
end Flo
namespace Flo
open Ieee
theorem cutE (s : Bool) (n k : Nat) (hk : k ≤ n.log2 + 2) : Toward.even.cut s n k = n / 2 ^ k + (if 2 ^ k < 2 * (n % 2 ^ k) ∨ (2 ^ k = 2 * (n % 2 ^ k) ∧ n / 2 ^ k % 2 = 1) then 1 else 0) := by
  unfold Toward.cut
  simp only
  rw [Nat.min_eq_left hk, Nat.shiftLeft_eq, Nat.one_mul]
  by_cases h : 2 ^ k < 2 * (n % 2 ^ k) ∨ (2 ^ k = 2 * (n % 2 ^ k) ∧ n / 2 ^ k % 2 = 1)
  · rw [if_pos h]
    have : (decide (2 ^ k < 2 * (n % 2 ^ k)) || (2 ^ k == 2 * (n % 2 ^ k) && n / 2 ^ k % 2 == 1)) = true := by
      rcases h with h | ⟨h1, h2⟩
      · rw [decide_eq_true h]; rfl
      · rw [beq_iff_eq.2 h1, beq_iff_eq.2 h2]; simp
    rw [this]; rfl
  · rw [if_neg h]
    have : (decide (2 ^ k < 2 * (n % 2 ^ k)) || (2 ^ k == 2 * (n % 2 ^ k) && n / 2 ^ k % 2 == 1)) = false := by
      have h1 : ¬ 2 ^ k < 2 * (n % 2 ^ k) := fun c => h (.inl c)
      rw [decide_eq_false h1, Bool.false_or, Bool.and_eq_false_iff]
      by_cases h2 : 2 ^ k = 2 * (n % 2 ^ k)
      · exact .inr (beq_eq_false_iff_ne.2 fun c => h (.inr ⟨h2, c⟩))
      · exact .inl (beq_eq_false_iff_ne.2 h2)
    rw [this]; rfl
/-- Between powers of two. -/
theorem log_is {n p : Nat} (h1 : 2 ^ p ≤ n) (h2 : n < 2 ^ (p + 1)) : n.log2 = p := log_range h1 h2
/-- A great whole number as a float: its word. -/
theorem fl_big {M L : Nat} (hL : M.log2 = L) (h : 52 ≤ L) (hu : L ≤ 100) (h0 : M ≠ 0) : fl (M : Int) = double.word false ((L - 52 + 1074) * 2 ^ 52 + Toward.even.cut false M (L - 52)) := by
  rw [fl_eq, show decide ((M : Int) < 0) = false from decide_eq_false (by omega), Int.natAbs_natCast]
  have hlt : M < 2 ^ (L + 1) := by rw [← hL]; exact Nat.lt_log2_self
  unfold Format.nearest
  simp only
  rw [if_neg h0, infRung_d, binade_d, leastPlace_d, show double.fractionBits = 52 from rfl, hL]
  rw [show max ((0 : Int) + (L : Int) - ((52 : Nat) : Int)) (-1074) = ((L - 52 : Nat) : Int) by omega]
  rw [show ((0 : Int) - ((L - 52 : Nat) : Int)).toNat = 0 by omega, Nat.shiftLeft_zero, show (((L - 52 : Nat) : Int) - 0).toNat = L - 52 by omega,
    show (((L - 52 : Nat) : Int) - -1074).toNat = L - 52 + 1074 by omega]
  have hc := (cut_re false M (L - 52)).2.1
  have hk : Toward.even.cut false M (L - 52) ≤ 2 ^ 53 := by
    rcases Nat.lt_or_ge (2 ^ 53) (Toward.even.cut false M (L - 52)) with c | c
    · exfalso
      have k1 := Nat.mul_le_mul_right (2 ^ (L - 52)) c
      rw [Nat.succ_mul] at k1
      have k2 : M < 2 ^ 53 * 2 ^ (L - 52) := by
        rw [← Nat.pow_add]
        exact Nat.lt_of_lt_of_le hlt (Nat.pow_le_pow_right (by omega) (by omega))
      omega
    · exact c
  rw [Nat.min_eq_left (by omega)]
/-- Times a power of two: so many binades higher. -/
theorem mul_pow {R k f P : Nat} (hR : 2 ^ 52 ≤ R) (hk : R + k * 2 ^ 52 < 2047 * 2 ^ 52) (hP : double.read P = .number false (2 ^ 52) ((k : Int) - 52)) (h : Gives (double.mul (double.word false R) P) f ∨ Gives (double.mul P (double.word false R)) f) :
    f = double.word false (R + k * 2 ^ 52) := by
  have hr : double.read (double.word false R) = .number false (2 ^ 52 + R % 2 ^ 52) (-1074 + (R / 2 ^ 52 - 1 : Nat)) := by
    rw [read_word _ _ (by omega), if_neg (by omega), if_pos (by omega)]
  have hf : f = double.nearest false ((2 ^ 52 + R % 2 ^ 52) * 2 ^ 52) (-1074 + (R / 2 ^ 52 - 1 : Nat) + ((k : Int) - 52)) := by
    rcases h with h | h
    · exact mul_form hr hP h
    · have := mul_form hP hr h
      rw [Nat.mul_comm, Int.add_comm] at this
      exact this
  rw [hf]
  have hm1 : 2 ^ 52 ≤ 2 ^ 52 + R % 2 ^ 52 := by omega
  have hm2 : 2 ^ 52 + R % 2 ^ 52 < 2 ^ 53 := by have := Nat.mod_lt R (show 0 < 2 ^ 52 by omega); omega
  have hl : ((2 ^ 52 + R % 2 ^ 52) * 2 ^ 52).log2 = 104 := by
    rw [log2_mul_pow _ _ (by omega), log_is (p := 52) hm1 hm2]
  have hq : 1 ≤ R / 2 ^ 52 := by omega
  have hRm : R = R / 2 ^ 52 * 2 ^ 52 + R % 2 ^ 52 := by omega
  obtain ⟨m, hm⟩ : ∃ m, m = 2 ^ 52 + R % 2 ^ 52 := ⟨_, rfl⟩
  rw [← hm] at hl ⊢
  have hm0 : m * 2 ^ 52 ≠ 0 := by omega
  unfold Format.nearest
  simp only
  rw [if_neg hm0, infRung_d, binade_d, leastPlace_d, show double.fractionBits = 52 from rfl, hl]
  rw [show max ((-1074 : Int) + (R / 2 ^ 52 - 1 : Nat) + ((k : Int) - 52) + ((104 : Nat) : Int) - ((52 : Nat) : Int)) (-1074) = -1074 + ((R / 2 ^ 52 - 1 + k : Nat) : Int) by omega]
  rw [show ((-1074 : Int) + (R / 2 ^ 52 - 1 : Nat) + ((k : Int) - 52) - (-1074 + ((R / 2 ^ 52 - 1 + k : Nat) : Int))).toNat = 0 by omega, Nat.shiftLeft_zero,
    show (-1074 + ((R / 2 ^ 52 - 1 + k : Nat) : Int) - ((-1074 : Int) + (R / 2 ^ 52 - 1 : Nat) + ((k : Int) - 52))).toNat = 52 by omega,
    cut_even _ _ _ (Nat.dvd_mul_left _ _) hm0, Nat.mul_div_cancel _ (by omega), show (-1074 + ((R / 2 ^ 52 - 1 + k : Nat) : Int) - -1074).toNat = R / 2 ^ 52 - 1 + k by omega]
  have e : (R / 2 ^ 52 - 1 + k) * 2 ^ 52 + m = R + k * 2 ^ 52 := by
    rw [hm]
    omega
  rw [e, Nat.min_eq_left (by omega)]
/-- Halved once, the bit that falls out kept as the last one. -/
def half1 (N : Nat) : Nat := if N % 2 = 0 then N / 2 else 2 * (N / 4) + 1
/-- Halved twice, the bits that fall out kept as the last one. -/
def half2 (N : Nat) : Nat := if N % 4 = 0 then N / 4 else 2 * (N / 8) + 1
theorem cut_half1 (N : Nat) (h1 : 2 ^ 64 ≤ N) (h2 : N < 2 ^ 65) : Toward.even.cut false (half1 N) 11 = Toward.even.cut false N 12 ∧ (half1 N).log2 = 63 := by
  have b1 : 2 ^ 63 ≤ half1 N ∧ half1 N < 2 ^ 64 := by unfold half1; split <;> omega
  have hl := log_is b1.1 b1.2
  refine ⟨?_, hl⟩
  rw [cutE false _ 11 (by omega), cutE false N 12 (by rw [log_is h1 h2]; omega)]
  have e : half1 N / 2 ^ 11 = N / 2 ^ 12 := by unfold half1; split <;> omega
  rw [e]
  have e2 : (2 ^ 11 < 2 * (half1 N % 2 ^ 11) ↔ 2 ^ 12 < 2 * (N % 2 ^ 12)) ∧ (2 ^ 11 = 2 * (half1 N % 2 ^ 11) ↔ 2 ^ 12 = 2 * (N % 2 ^ 12)) := by
    unfold half1
    split <;> omega
  simp only [e2.1, e2.2]
theorem cut_half2 (N : Nat) (h1 : 2 ^ 64 ≤ N) (h2 : N < 2 ^ 65) : Toward.even.cut false (half2 N) 10 = Toward.even.cut false N 12 ∧ (half2 N).log2 = 62 := by
  have b1 : 2 ^ 62 ≤ half2 N ∧ half2 N < 2 ^ 63 := by unfold half2; split <;> omega
  have hl := log_is b1.1 b1.2
  refine ⟨?_, hl⟩
  rw [cutE false _ 10 (by omega), cutE false N 12 (by rw [log_is h1 h2]; omega)]
  have e : half2 N / 2 ^ 10 = N / 2 ^ 12 := by unfold half2; split <;> omega
  rw [e]
  have e2 : (2 ^ 10 < 2 * (half2 N % 2 ^ 10) ↔ 2 ^ 12 < 2 * (N % 2 ^ 12)) ∧ (2 ^ 10 = 2 * (half2 N % 2 ^ 10) ↔ 2 ^ 12 = 2 * (N % 2 ^ 12)) := by
    unfold half2
    split <;> omega
  simp only [e2.1, e2.2]
theorem fl_65 {N : Nat} (h1 : 2 ^ 64 ≤ N) (h2 : N < 2 ^ 65) : fl (N : Int) = double.word false ((12 + 1074) * 2 ^ 52 + Toward.even.cut false N 12) := by
  have := fl_big (log_is h1 h2) (by omega) (by omega) (by omega)
  rw [show 64 - 52 = 12 from rfl] at this
  exact this
def twoF : Nat := 4611686018427387904
def fourF : Nat := 4616189618054758400
theorem read_two : double.read twoF = .number false (2 ^ 52) (-51) := by decide
theorem read_four : double.read fourF = .number false (2 ^ 52) (-50) := by decide
theorem cut_lt (N : Nat) (h2 : N < 2 ^ 65) : Toward.even.cut false N 12 ≤ 2 ^ 53 := by
  have := (cut_re false N 12).2.1
  omega
theorem sq_one {N f : Nat} (h1 : 2 ^ 64 ≤ N) (h2 : N < 2 ^ 65) (h : Gives (double.mul twoF (fl (half1 N : Int))) f) : f = fl (N : Int) := by
  obtain ⟨c1, l1⟩ := cut_half1 N h1 h2
  have hc := cut_lt N h2
  have h0 : half1 N ≠ 0 := by intro c; rw [c] at l1; exact absurd l1 (by decide)
  rw [fl_big l1 (by omega) (by omega) h0, show 63 - 52 = 11 from rfl, c1] at h
  have := mul_pow (k := 1) (P := twoF) (by omega) (by omega) read_two (.inr h)
  rw [this, fl_65 h1 h2]
  congr 1
  omega
theorem sq_two {N f : Nat} (h1 : 2 ^ 64 ≤ N) (h2 : N < 2 ^ 65) (h : Gives (double.mul (fl (half2 N : Int)) fourF) f) : f = fl (N : Int) := by
  obtain ⟨c1, l1⟩ := cut_half2 N h1 h2
  have hc := cut_lt N h2
  have h0 : half2 N ≠ 0 := by intro c; rw [c] at l1; exact absurd l1 (by decide)
  rw [fl_big l1 (by omega) (by omega) h0, show 62 - 52 = 10 from rfl, c1] at h
  have := mul_pow (k := 2) (P := fourF) (by omega) (by omega) read_four (.inl h)
  rw [this, fl_65 h1 h2]
  congr 1
  omega
end Flo
namespace Flo
open Ieee
end Flo
namespace Flo
open Ieee
section
variable {x y r : Nat}
end
/-- A weight: from nought on, and well below one. -/
def Weight (w : Nat) : Prop := Num w ∧ 0 ≤ key w ∧ (key w).natAbs * 2 ^ 30 ≤ U * (2 ^ 30 - 1)
theorem Weight.one {w : Nat} (h : Weight w) : (key w).natAbs ≤ U := by
  have h1 := h.2.2
  have h2 : U * (2 ^ 30 - 1) ≤ U * 2 ^ 30 := Nat.mul_le_mul_left _ (by omega)
  exact Nat.le_of_mul_le_mul_right (Nat.le_trans h1 h2) (by omega)
/-- The ways of a speed, by numbers. -/
def SpeedR (n : Nat) (old v r : Nat) : Prop := ∃ w d e, Gives (double.div (fl (n : Int)) (fl ((n + 8 : Nat) : Int))) w ∧ Gives (double.sub v old) d ∧ Gives (double.mul w d) e ∧ Gives (double.add old e) r
/-- A speed behind a move: n ticks, the squares' sum N. -/
def TrackR (N n : Nat) (old r : Nat) : Prop := ∃ a v, Gives (double.sqrt (fl (N : Int))) a ∧ Gives (double.div a (fl (n : Int))) v ∧ SpeedR n old v r
theorem speedR_fe {n old v r old' v' r' : Nat} (ho : FE old old') (hv : FE v v') (h : SpeedR n old v r) (h' : SpeedR n old' v' r') : FE r r' := by
  obtain ⟨w, d, e, hw, hd, he, hr⟩ := h
  obtain ⟨w', d', e', hw', hd', he', hr'⟩ := h'
  exact add_fe ho (mul_fe (hw.fe hw') (sub_fe hv ho hd hd') he he') hr hr'
theorem trackR_fe {N n old r old' r' : Nat} (ho : FE old old') (h : TrackR N n old r) (h' : TrackR N n old' r') : FE r r' := by
  obtain ⟨a, v, ha, hv, hs⟩ := h
  obtain ⟨a', v', ha', hv', hs'⟩ := h'
  exact speedR_fe ho (div_fe (ha.fe ha') (FE.refl _) hv hv') hs hs'
end Flo
end
