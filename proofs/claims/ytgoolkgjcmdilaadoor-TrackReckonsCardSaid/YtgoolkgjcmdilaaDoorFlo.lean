/-
  Floats, plainly: what a word stands for, the order, rounding, exact sums, nearest whole numbers.
  Floats, plainly: whole numbers, roots, quotients and products, nearly.
  Floats, plainly: the sum of two squares, rounded once, by two ways.
  Floats, plainly: rounding passes no number of the format; an average lies between.
  Floats, plainly: products, sums and differences by what they do not pass; a speed lies between the elder one and the move's own.
-/
import Ieee.Arith
import GoSem.Core.Float
import Derived.Laws.FloatBits
import Derived.Laws.FloatArith
import Derived.Laws.Cover2
namespace Flo
open Ieee

theorem binade_d : double.binade = 2 ^ 52 := by decide
theorem infRung_d : double.infRung = 2047 * 2 ^ 52 := by decide
theorem signWeight_d : double.signWeight = 2 ^ 63 := by decide
theorem leastPlace_d : double.leastPlace = -1074 := by decide

theorem signed_eq (s : Bool) (m k : Nat) : signed s m k = (if s then -1 else 1) * ((m * 2 ^ k : Nat) : Int) := by
  unfold signed
  rw [Nat.shiftLeft_eq]
  cases s <;> simp
theorem signed_add (s : Bool) (m k c : Nat) : signed s m (k + c) = signed s m k * ((2 ^ c : Nat) : Int) := by
  rw [signed_eq, signed_eq, Nat.pow_add, ← Nat.mul_assoc, Int.natCast_mul, Int.mul_assoc]
theorem signed_opp (s : Bool) (m k : Nat) : signed (!s) m k = - signed s m k := by
  rw [signed_eq, signed_eq]
  cases s <;> simp
theorem signed_natAbs (s : Bool) (m k : Nat) : (signed s m k).natAbs = m * 2 ^ k := by
  rw [signed_eq]
  cases s
  · rw [if_neg (by decide), Int.one_mul, Int.natAbs_natCast]
  · rw [if_pos rfl, Int.neg_mul, Int.one_mul, Int.natAbs_neg, Int.natAbs_natCast]

/-- Above all finite numbers. -/
def bigE : Nat := 2200
def big : Nat := 2 ^ bigE
theorem big_pos : 0 < big := Nat.two_pow_pos _
theorem lt_gen {m k p q r : Nat} (hm : m < 2 ^ p) (hk : k ≤ q) (hr : p + q < r) : m * 2 ^ k < 2 ^ r := by
  have h6 : 2 ^ k ≤ 2 ^ q := Nat.pow_le_pow_right (by omega) hk
  have h7 : m * 2 ^ k ≤ 2 ^ p * 2 ^ q := Nat.mul_le_mul (Nat.le_of_lt hm) h6
  rw [← Nat.pow_add] at h7
  exact Nat.lt_of_le_of_lt h7 (Nat.pow_lt_pow_right (by omega) hr)
theorem lt_big {m k : Nat} (hm : m < 2 ^ 53) (hk : k ≤ 2046) : m * 2 ^ k < big := lt_gen hm hk (by unfold bigE; omega)
def inf : Int := (big : Int)
theorem inf_pos : 0 < inf := Int.natCast_pos.2 big_pos
/-- What a datum stands for, in units of the least place. -/
def dkey : Datum → Int
  | .number s m e => signed s m (e + 1074).toNat
  | .infinity s => if s then -inf else inf
  | .nan _ _ => 0
/-- A datum of the format, or near it. -/
def dok : Datum → Prop
  | .number _ m e => -1074 ≤ e ∧ m * 2 ^ (e + 1074).toNat < big
  | .infinity _ => True
  | .nan _ _ => False

theorem compare_mul (a b : Int) {c : Nat} (hc : 0 < c) : compare (a * (c : Int)) (b * (c : Int)) = compare a b := by
  have hc' : (0 : Int) < (c : Int) := by omega
  rcases Int.lt_trichotomy a b with h | h | h
  · rw [Int.compare_eq_lt.2 h, Int.compare_eq_lt.2 (Int.mul_lt_mul_of_pos_right h hc')]
  · rw [h, Int.compare_eq_eq.2 rfl, Int.compare_eq_eq.2 rfl]
  · rw [Int.compare_eq_gt.2 h, Int.compare_eq_gt.2 (Int.mul_lt_mul_of_pos_right h hc')]
theorem dkey_bd {s : Bool} {m : Nat} {e : Int} (h : dok (.number s m e)) : -inf < dkey (.number s m e) ∧ dkey (.number s m e) < inf := by
  have h1 := signed_natAbs s m (e + 1074).toNat
  have h2 := h.2
  rw [← h1] at h2
  have h3 : dkey (.number s m e) = signed s m (e + 1074).toNat := rfl
  rw [h3]
  unfold inf
  omega
theorem key_num (s : Bool) (m : Nat) (e : Int) : dkey (.number s m e) = signed s m (e + 1074).toNat := rfl
theorem key_inf (s : Bool) : dkey (.infinity s) = if s then -inf else inf := rfl
theorem order_nn (s t : Bool) (m n : Nat) (i j : Int) (h1 : -1074 ≤ i) (h2 : -1074 ≤ j) : (Datum.number s m i).order (.number t n j) = some (compare (dkey (.number s m i)) (dkey (.number t n j))) := by
  have e1 : (i + 1074).toNat = (i - min i j).toNat + (min i j + 1074).toNat := by omega
  have e2 : (j + 1074).toNat = (j - min i j).toNat + (min i j + 1074).toNat := by omega
  rw [key_num, key_num, e1, e2, signed_add, signed_add, compare_mul _ _ (Nat.two_pow_pos _)]
  rfl
theorem order_ni (d : Datum) (t : Bool) (s : Bool) (m : Nat) (i : Int) (hd : d = .number s m i) (h1 : -inf < dkey d ∧ dkey d < inf) : d.order (.infinity t) = some (compare (dkey d) (dkey (.infinity t))) := by
  rw [key_inf]
  generalize hk : dkey d = k at *
  subst hd
  cases t
  · rw [Int.compare_eq_lt.2 (by simpa using h1.2)]; rfl
  · rw [Int.compare_eq_gt.2 (by simpa using h1.1)]; rfl
theorem order_in (d : Datum) (t : Bool) (s : Bool) (m : Nat) (i : Int) (hd : d = .number s m i) (h1 : -inf < dkey d ∧ dkey d < inf) : (Datum.infinity t).order d = some (compare (dkey (.infinity t)) (dkey d)) := by
  rw [key_inf]
  generalize hk : dkey d = k at *
  subst hd
  cases t
  · rw [Int.compare_eq_gt.2 (by simpa using h1.2)]; rfl
  · rw [Int.compare_eq_lt.2 (by simpa using h1.1)]; rfl
theorem order_ii (s t : Bool) : (Datum.infinity s).order (.infinity t) = some (compare (dkey (.infinity s)) (dkey (.infinity t))) := by
  have hinf := inf_pos
  rw [key_inf, key_inf]
  generalize inf = B at *
  cases s <;> cases t
  · rw [Int.compare_eq_eq.2 rfl]; rfl
  · rw [Int.compare_eq_gt.2 (by simp; omega)]; rfl
  · rw [Int.compare_eq_lt.2 (by simp; omega)]; rfl
  · rw [Int.compare_eq_eq.2 rfl]; rfl
theorem order_key {d e : Datum} (hd : dok d) (he : dok e) : d.order e = some (compare (dkey d) (dkey e)) := by
  cases d with
  | number s m i =>
    cases e with
    | number t n j => exact order_nn s t m n i j hd.1 he.1
    | infinity t => exact order_ni _ t s m i rfl (dkey_bd hd)
    | nan => exact he.elim
  | infinity s =>
    cases e with
    | number t n j => exact order_in _ s t n j rfl (dkey_bd he)
    | infinity t => exact order_ii s t
    | nan => exact he.elim
  | nan => exact hd.elim

/-- Is a word no number? -/
def isNaN (x : Nat) : Bool := (double.read x).isNaN
/-- What a word stands for. -/
def key (x : Nat) : Int := dkey (double.read x)
theorem read_ok (x : Nat) (h : isNaN x = false) : dok (double.read x) := by
  unfold isNaN at h
  unfold Format.read at h ⊢
  rw [binade_d, infRung_d, signWeight_d, leastPlace_d] at *
  simp only at h ⊢
  split
  · rename_i h1
    exact ⟨by omega, lt_big (by omega) (by omega)⟩
  · rename_i h1
    split
    · rename_i h2
      refine ⟨by omega, ?_⟩
      exact lt_big (by omega) (by omega)
    · rename_i h2
      split
      · trivial
      · rename_i h3
        rw [if_neg h1, if_neg h2, if_neg h3] at h
        simp [Datum.isNaN] at h
theorem order_ok {x y : Nat} (hx : isNaN x = false) (hy : isNaN y = false) : double.order x y = some (compare (key x) (key y)) := order_key (read_ok x hx) (read_ok y hy)
theorem nan_form {d : Datum} (h : d.isNaN = true) : ∃ s t, d = .nan s t := by
  cases d <;> simp [Datum.isNaN] at h
  exact ⟨_, _, rfl⟩
theorem order_nan_l {x y : Nat} (hx : isNaN x = true) : double.order x y = none := by
  obtain ⟨s, t, h⟩ := nan_form hx
  unfold Format.order
  rw [h]
  rfl
theorem order_nan_r {x y : Nat} (hy : isNaN y = true) : double.order x y = none := by
  obtain ⟨s, t, h⟩ := nan_form hy
  unfold Format.order
  rw [h]
  cases double.read x <;> rfl

theorem read_def (x : Nat) : double.read x = (if x % 2 ^ 63 < 2 ^ 52 then Datum.number (x / 2 ^ 63 % 2 == 1) (x % 2 ^ 63) (-1074)
    else if x % 2 ^ 63 < 2047 * 2 ^ 52 then .number (x / 2 ^ 63 % 2 == 1) (2 ^ 52 + x % 2 ^ 63 % 2 ^ 52) (-1074 + (x % 2 ^ 63 / 2 ^ 52 - 1 : Nat))
    else if x % 2 ^ 63 = 2047 * 2 ^ 52 then .infinity (x / 2 ^ 63 % 2 == 1) else .nan (x / 2 ^ 63 % 2 == 1) (x % 2 ^ 63 - 2047 * 2 ^ 52)) := by
  unfold Format.read
  rw [binade_d, infRung_d, signWeight_d, leastPlace_d]
theorem word_def (s : Bool) (r : Nat) : double.word s r = if s then 2 ^ 63 + r else r := by
  unfold Format.word
  rw [signWeight_d]
theorem read_word (s : Bool) (r : Nat) (h : r ≤ 2047 * 2 ^ 52) : double.read (double.word s r) = (if r < 2 ^ 52 then Datum.number s r (-1074)
    else if r < 2047 * 2 ^ 52 then .number s (2 ^ 52 + r % 2 ^ 52) (-1074 + (r / 2 ^ 52 - 1 : Nat)) else .infinity s) := by
  rw [read_def, word_def]
  cases s
  · have h1 : r % 2 ^ 63 = r := by omega
    have h2 : (r / 2 ^ 63 % 2 == 1) = false := by rw [beq_eq_false_iff_ne]; omega
    simp only [Bool.false_eq_true, if_false, h1, h2]
    split
    · rfl
    · split
      · rfl
      · rw [if_pos (by omega)]
  · have h1 : (2 ^ 63 + r) % 2 ^ 63 = r := by omega
    have h2 : ((2 ^ 63 + r) / 2 ^ 63 % 2 == 1) = true := by rw [beq_iff_eq]; omega
    simp only [if_true, h1, h2]
    split
    · rfl
    · split
      · rfl
      · rw [if_pos (by omega)]
/-- What a rung stands for. -/
def rungVal (r : Nat) : Nat := if r < 2 ^ 52 then r else (2 ^ 52 + r % 2 ^ 52) * 2 ^ (r / 2 ^ 52 - 1)
theorem key_word (s : Bool) (r : Nat) (h : r < 2047 * 2 ^ 52) : isNaN (double.word s r) = false ∧ key (double.word s r) = (if s then -1 else 1) * (rungVal r : Int) := by
  unfold isNaN key
  rw [read_word s r (by omega)]
  unfold rungVal
  split
  · refine ⟨rfl, ?_⟩
    rw [key_num, signed_eq]
    simp
  · refine ⟨rfl, ?_⟩
    rw [key_num, signed_eq, show (-1074 + ((r / 2 ^ 52 - 1 : Nat) : Int) + 1074).toNat = r / 2 ^ 52 - 1 by omega]
theorem key_word_inf (s : Bool) : isNaN (double.word s (2047 * 2 ^ 52)) = false ∧ key (double.word s (2047 * 2 ^ 52)) = (if s then -1 else 1) * inf := by
  unfold isNaN key
  rw [read_word s _ (Nat.le_refl _), if_neg (by omega), if_neg (by omega)]
  refine ⟨rfl, ?_⟩
  rw [key_inf]
  cases s <;> simp
theorem rungVal_eq (q kept : Nat) (h1 : kept ≤ 2 ^ 53) (h2 : 0 < q → 2 ^ 52 ≤ kept) : rungVal (q * 2 ^ 52 + kept) = kept * 2 ^ q := by
  unfold rungVal
  by_cases h3 : kept < 2 ^ 52
  · obtain rfl : q = 0 := by omega
    rw [if_pos (by omega)]
    omega
  · rw [if_neg (by omega)]
    by_cases h4 : kept = 2 ^ 53
    · subst h4
      rw [show q * 2 ^ 52 + 2 ^ 53 = (q + 2) * 2 ^ 52 by omega, Nat.mul_mod_left, Nat.mul_div_cancel _ (by omega), show q + 2 - 1 = q + 1 by omega, Nat.pow_succ]
      omega
    · have e1 : (q * 2 ^ 52 + kept) % 2 ^ 52 = kept - 2 ^ 52 := by omega
      have e2 : (q * 2 ^ 52 + kept) / 2 ^ 52 - 1 = q := by omega
      rw [e1, e2, show 2 ^ 52 + (kept - 2 ^ 52) = kept by omega]
/-- A written number is a number, or above all. -/
theorem nan_nearest (s : Bool) (m : Nat) (e : Int) : isNaN (double.nearest s m e) = false := by
  unfold Format.nearest
  simp only
  split
  · exact (key_word s 0 (by omega)).1
  · rw [infRung_d]
    generalize hr : min _ (2047 * 2 ^ 52) = r
    have h1 : r ≤ 2047 * 2 ^ 52 := by rw [← hr]; exact Nat.min_le_right _ _
    rcases Nat.lt_or_eq_of_le h1 with h2 | h2
    · exact (key_word s r h2).1
    · rw [h2]; exact (key_word_inf s).1
theorem nan_write {d : Datum} (h : d.isNaN = false) : isNaN (double.write d) = false := by
  cases d with
  | number s m e => exact nan_nearest s m e
  | infinity s =>
    show isNaN (double.word s double.infRung) = false
    rw [infRung_d]
    exact (key_word_inf s).1
  | nan => simp [Datum.isNaN] at h

theorem log2_mul_pow (m k : Nat) (h : m ≠ 0) : (m * 2 ^ k).log2 = m.log2 + k := by
  have hn : m * 2 ^ k ≠ 0 := Nat.mul_ne_zero h (Nat.ne_of_gt (Nat.two_pow_pos _))
  have h1 : m.log2 + k ≤ (m * 2 ^ k).log2 := by
    rw [Nat.le_log2 hn, Nat.pow_add]
    exact Nat.mul_le_mul_right _ (Nat.log2_self_le h)
  have h2 : (m * 2 ^ k).log2 < m.log2 + k + 1 := by
    rw [Nat.log2_lt hn, show m.log2 + k + 1 = (m.log2 + 1) + k by omega, Nat.pow_add]
    exact Nat.mul_lt_mul_of_pos_right Nat.lt_log2_self (Nat.two_pow_pos _)
  omega
/-- Nothing is dropped. -/
theorem cut_even (s : Bool) (n q : Nat) (h : 2 ^ q ∣ n) (hn : n ≠ 0) : Toward.even.cut s n q = n / 2 ^ q := by
  have h1 : q ≤ n.log2 := by
    rw [Nat.le_log2 hn]
    exact Nat.le_of_dvd (by omega) h
  unfold Toward.cut
  simp only
  rw [Nat.min_eq_left (by omega), Nat.shiftLeft_eq, Nat.one_mul, Nat.mod_eq_zero_of_dvd h]
  have h2 : 0 < 2 ^ q := Nat.two_pow_pos _
  simp
/-- What the format has is rounded to itself. V: the number in units of the least place. -/
theorem nearest_exact (s : Bool) (m : Nat) (e : Int) (he : -1074 ≤ e) (V : Nat) (hV : V = m * 2 ^ (e + 1074).toNat) (hd : 2 ^ (V.log2 - 52) ∣ V) (hb : V.log2 ≤ 2097) :
    key (double.nearest s m e) = (if s then -1 else 1) * (V : Int) := by
  unfold Format.nearest
  simp only
  by_cases hm : m = 0
  · rw [if_pos hm, (key_word s 0 (by omega)).2, hV, hm]
    simp [rungVal]
  rw [if_neg hm, infRung_d, binade_d, leastPlace_d]
  have hf : double.fractionBits = 52 := rfl
  rw [hf]
  have hVn : V ≠ 0 := by rw [hV]; exact Nat.mul_ne_zero hm (Nat.ne_of_gt (Nat.two_pow_pos _))
  have hlog : V.log2 = m.log2 + (e + 1074).toNat := by
    rw [hV]
    exact log2_mul_pow m _ hm
  obtain ⟨q, hq⟩ : ∃ q, q = V.log2 - 52 := ⟨_, rfl⟩
  have hlast : max (e + (m.log2 : Int) - ((52 : Nat) : Int)) (-1074) = (q : Int) - 1074 := by omega
  rw [hlast]
  have e1 : ((q : Int) - 1074 - -1074).toNat = q := by omega
  rw [e1]
  rw [← hq] at hd
  have hk : Toward.even.cut s (m <<< (e - ((q : Int) - 1074)).toNat) ((q : Int) - 1074 - e).toNat = V / 2 ^ q := by
    rw [Nat.shiftLeft_eq]
    by_cases hc : (q : Int) - 1074 ≤ e
    · have e2 : ((q : Int) - 1074 - e).toNat = 0 := by omega
      rw [e2, cut_even _ _ _ (by simp) (Nat.mul_ne_zero hm (Nat.ne_of_gt (Nat.two_pow_pos _))), Nat.pow_zero, Nat.div_one, hV]
      rw [show (e + 1074).toNat = (e - ((q : Int) - 1074)).toNat + q by omega, Nat.pow_add, ← Nat.mul_assoc, Nat.mul_div_cancel _ (Nat.two_pow_pos _)]
    · have e2 : (e - ((q : Int) - 1074)).toNat = 0 := by omega
      have e3 : q = (e + 1074).toNat + ((q : Int) - 1074 - e).toNat := by omega
      rw [e2, Nat.pow_zero, Nat.mul_one]
      generalize hg : ((q : Int) - 1074 - e).toNat = g at *
      have hdm : 2 ^ g ∣ m := by
        rw [hV, e3, Nat.pow_add, Nat.mul_comm] at hd
        exact Nat.dvd_of_mul_dvd_mul_right (Nat.two_pow_pos _) hd
      rw [cut_even _ _ _ hdm hm, hV, e3, Nat.pow_add, Nat.mul_comm (2 ^ (e + 1074).toNat), Nat.mul_div_mul_right _ _ (Nat.two_pow_pos _)]
  rw [hk]
  have hlt : V / 2 ^ q < 2 ^ 53 := by
    rw [Nat.div_lt_iff_lt_mul (Nat.two_pow_pos _), ← Nat.pow_add]
    exact Nat.lt_of_lt_of_le (Nat.lt_log2_self) (Nat.pow_le_pow_right (by omega) (by omega))
  have hge : 0 < q → 2 ^ 52 ≤ V / 2 ^ q := fun h0 => by
    rw [Nat.le_div_iff_mul_le (Nat.two_pow_pos _), ← Nat.pow_add]
    exact Nat.le_trans (Nat.pow_le_pow_right (by omega) (by omega)) (Nat.log2_self_le hVn)
  have hr : q * 2 ^ 52 + V / 2 ^ q < 2047 * 2 ^ 52 := by
    have : q ≤ 2045 := by omega
    omega
  rw [Nat.min_eq_left (by omega), (key_word s _ hr).2, rungVal_eq q _ (by omega) hge, Nat.div_mul_cancel hd]

/-- What an operation may give: its word; or no number, where it has none. -/
def Gives (o : Option Nat) (r : Nat) : Prop := match o with
  | some b => r = b
  | none => isNaN r = true ∧ r < 2 ^ 64
/-- The same word, or no number both. -/
def FE (x y : Nat) : Prop := x = y ∨ (isNaN x = true ∧ isNaN y = true)
theorem FE.refl (x : Nat) : FE x x := .inl rfl
theorem FE.symm {x y : Nat} (h : FE x y) : FE y x := h.elim (fun h => .inl h.symm) (fun h => .inr ⟨h.2, h.1⟩)
theorem FE.trans {x y z : Nat} (h : FE x y) (k : FE y z) : FE x z := by
  rcases h with rfl | ⟨h1, h2⟩
  · exact k
  · rcases k with rfl | ⟨k1, k2⟩
    · exact .inr ⟨h1, h2⟩
    · exact .inr ⟨h1, k2⟩
theorem FE.nan {x y : Nat} (h : FE x y) : isNaN x = isNaN y := by
  rcases h with rfl | ⟨h1, h2⟩
  · rfl
  · rw [h1, h2]
theorem Gives.fe {o : Option Nat} {r r' : Nat} (h : Gives o r) (h' : Gives o r') : FE r r' := by
  cases o with
  | some b => exact .inl (Eq.trans h (Eq.symm h'))
  | none => exact .inr ⟨h.1, h'.1⟩
section
variable {x y x' y' : Nat}
theorem sum_nan (h : isNaN x = true ∨ isNaN y = true) : (double.read x).sum (double.read y) = none := by
  rcases h with h | h
  · obtain ⟨s, t, e⟩ := nan_form h
    rw [e]; rfl
  · obtain ⟨s, t, e⟩ := nan_form h
    rw [e]; cases double.read x <;> rfl
theorem add_nan (h : isNaN x = true ∨ isNaN y = true) : double.add x y = none := by
  unfold Format.add; rw [sum_nan h]; rfl
theorem sub_nan (h : isNaN x = true ∨ isNaN y = true) : double.sub x y = none := by
  unfold Format.sub
  rcases h with h | h
  · obtain ⟨s, t, e⟩ := nan_form h
    rw [e]; rfl
  · obtain ⟨s, t, e⟩ := nan_form h
    rw [e]; cases double.read x <;> rfl
theorem mul_nan (h : isNaN x = true ∨ isNaN y = true) : double.mul x y = none := by
  unfold Format.mul
  rcases h with h | h
  · obtain ⟨s, t, e⟩ := nan_form h
    rw [e]; rfl
  · obtain ⟨s, t, e⟩ := nan_form h
    rw [e]; cases double.read x <;> rfl
theorem div_nan (h : isNaN x = true ∨ isNaN y = true) : double.div x y = none := by
  unfold Format.div
  rcases h with h | h
  · obtain ⟨s, t, e⟩ := nan_form h
    rw [e]; rfl
  · obtain ⟨s, t, e⟩ := nan_form h
    rw [e]; cases double.read x <;> rfl
theorem sqrt_nan (h : isNaN x = true) : double.sqrt x = none := by
  unfold Format.sqrt
  obtain ⟨s, t, e⟩ := nan_form h
  rw [e]; rfl
theorem two_fe {f : Nat → Nat → Option Nat} (hf : ∀ {x y : Nat}, isNaN x = true ∨ isNaN y = true → f x y = none) {r r' : Nat} (hx : FE x x') (hy : FE y y') (h : Gives (f x y) r) (h' : Gives (f x' y') r') : FE r r' := by
  rcases hx with rfl | ⟨h1, h2⟩
  · rcases hy with rfl | ⟨k1, k2⟩
    · exact h.fe h'
    · rw [hf (.inr k1)] at h
      rw [hf (.inr k2)] at h'
      exact h.fe h'
  · rw [hf (.inl h1)] at h
    rw [hf (.inl h2)] at h'
    exact h.fe h'
theorem add_fe {r r' : Nat} (hx : FE x x') (hy : FE y y') (h : Gives (double.add x y) r) (h' : Gives (double.add x' y') r') : FE r r' := two_fe add_nan hx hy h h'
theorem sub_fe {r r' : Nat} (hx : FE x x') (hy : FE y y') (h : Gives (double.sub x y) r) (h' : Gives (double.sub x' y') r') : FE r r' := two_fe sub_nan hx hy h h'
theorem mul_fe {r r' : Nat} (hx : FE x x') (hy : FE y y') (h : Gives (double.mul x y) r) (h' : Gives (double.mul x' y') r') : FE r r' := two_fe mul_nan hx hy h h'
theorem div_fe {r r' : Nat} (hx : FE x x') (hy : FE y y') (h : Gives (double.div x y) r) (h' : Gives (double.div x' y') r') : FE r r' := two_fe div_nan hx hy h h'
theorem sqrt_fe {r r' : Nat} (hx : FE x x') (h : Gives (double.sqrt x) r) (h' : Gives (double.sqrt x') r') : FE r r' := by
  rcases hx with rfl | ⟨h1, h2⟩
  · exact h.fe h'
  · rw [sqrt_nan h1] at h
    rw [sqrt_nan h2] at h'
    exact h.fe h'

theorem width_d : double.width = 64 := by decide
theorem add_wf {r : Nat} (h : Gives (double.add x y) r) : r < 2 ^ 64 := by
  cases ho : double.add x y with
  | none => rw [ho] at h; exact h.2
  | some b => rw [ho] at h; rw [show r = b from h]; have := double.add_lt ho; rwa [width_d] at this
theorem sub_wf {r : Nat} (h : Gives (double.sub x y) r) : r < 2 ^ 64 := by
  cases ho : double.sub x y with
  | none => rw [ho] at h; exact h.2
  | some b => rw [ho] at h; rw [show r = b from h]; have := double.sub_lt ho; rwa [width_d] at this
theorem mul_wf {r : Nat} (h : Gives (double.mul x y) r) : r < 2 ^ 64 := by
  cases ho : double.mul x y with
  | none => rw [ho] at h; exact h.2
  | some b => rw [ho] at h; rw [show r = b from h]; have := double.mul_lt ho; rwa [width_d] at this
theorem div_wf {r : Nat} (h : Gives (double.div x y) r) : r < 2 ^ 64 := by
  cases ho : double.div x y with
  | none => rw [ho] at h; exact h.2
  | some b => rw [ho] at h; rw [show r = b from h]; have := double.div_lt ho; rwa [width_d] at this
theorem sqrt_wf {r : Nat} (h : Gives (double.sqrt x) r) : r < 2 ^ 64 := by
  cases ho : double.sqrt x with
  | none => rw [ho] at h; exact h.2
  | some b => rw [ho] at h; rw [show r = b from h]; have := double.sqrt_lt ho; rwa [width_d] at this

/-- Go's ==. -/
def feq (x y : Nat) : Bool := double.order x y == some .eq
theorem feq_self (x : Nat) : feq x x = !isNaN x := by
  unfold feq
  cases h : isNaN x with
  | true => rw [order_nan_l h]; rfl
  | false => rw [order_ok h h, Int.compare_eq_eq.2 rfl]; rfl
theorem feq_iff (hx : isNaN x = false) (hy : isNaN y = false) : feq x y = decide (key x = key y) := by
  unfold feq
  rw [order_ok hx hy]
  rcases Int.lt_trichotomy (key x) (key y) with h | h | h
  · rw [Int.compare_eq_lt.2 h, decide_eq_false (by omega)]; rfl
  · rw [Int.compare_eq_eq.2 h, decide_eq_true h]; rfl
  · rw [Int.compare_eq_gt.2 h, decide_eq_false (by omega)]; rfl
/-- Go's <, <=, >, >=. -/
def flt (x y : Nat) : Bool := double.order x y == some .lt
def fle (x y : Nat) : Bool := double.order x y == some .lt || double.order x y == some .eq
def fgt (x y : Nat) : Bool := double.order x y == some .gt
def fge (x y : Nat) : Bool := double.order x y == some .gt || double.order x y == some .eq
theorem flt_iff (hx : isNaN x = false) (hy : isNaN y = false) : flt x y = decide (key x < key y) := by
  unfold flt
  rw [order_ok hx hy]
  rcases Int.lt_trichotomy (key x) (key y) with h | h | h
  · rw [Int.compare_eq_lt.2 h, decide_eq_true h]; rfl
  · rw [Int.compare_eq_eq.2 h, decide_eq_false (by omega)]; rfl
  · rw [Int.compare_eq_gt.2 h, decide_eq_false (by omega)]; rfl
theorem fle_iff (hx : isNaN x = false) (hy : isNaN y = false) : fle x y = decide (key x ≤ key y) := by
  unfold fle
  rw [order_ok hx hy]
  rcases Int.lt_trichotomy (key x) (key y) with h | h | h
  · rw [Int.compare_eq_lt.2 h, decide_eq_true (by omega)]; rfl
  · rw [Int.compare_eq_eq.2 h, decide_eq_true (by omega)]; rfl
  · rw [Int.compare_eq_gt.2 h, decide_eq_false (by omega)]; rfl
theorem fgt_iff (hx : isNaN x = false) (hy : isNaN y = false) : fgt x y = decide (key y < key x) := by
  unfold fgt
  rw [order_ok hx hy]
  rcases Int.lt_trichotomy (key x) (key y) with h | h | h
  · rw [Int.compare_eq_lt.2 h, decide_eq_false (by omega)]; rfl
  · rw [Int.compare_eq_eq.2 h, decide_eq_false (by omega)]; rfl
  · rw [Int.compare_eq_gt.2 h, decide_eq_true (by omega)]; rfl
theorem fge_iff (hx : isNaN x = false) (hy : isNaN y = false) : fge x y = decide (key y ≤ key x) := by
  unfold fge
  rw [order_ok hx hy]
  rcases Int.lt_trichotomy (key x) (key y) with h | h | h
  · rw [Int.compare_eq_lt.2 h, decide_eq_false (by omega)]; rfl
  · rw [Int.compare_eq_eq.2 h, decide_eq_true (by omega)]; rfl
  · rw [Int.compare_eq_gt.2 h, decide_eq_true (by omega)]; rfl
theorem cmp_nan (h : isNaN x = true ∨ isNaN y = true) : double.order x y = none := h.elim order_nan_l order_nan_r
theorem feq_nan (h : isNaN x = true ∨ isNaN y = true) : feq x y = false := by unfold feq; rw [cmp_nan h]; rfl
theorem flt_nan (h : isNaN x = true ∨ isNaN y = true) : flt x y = false := by unfold flt; rw [cmp_nan h]; rfl
theorem fle_nan (h : isNaN x = true ∨ isNaN y = true) : fle x y = false := by unfold fle; rw [cmp_nan h]; rfl
theorem fgt_nan (h : isNaN x = true ∨ isNaN y = true) : fgt x y = false := by unfold fgt; rw [cmp_nan h]; rfl
theorem fge_nan (h : isNaN x = true ∨ isNaN y = true) : fge x y = false := by unfold fge; rw [cmp_nan h]; rfl

/-- Alike: equal, or no number both. -/
def alikeB (x y : Nat) : Bool := feq x y || (!feq x x && !feq y y)
theorem alikeB_fe (h : FE x y) : alikeB x y = true := by
  unfold alikeB
  rcases h with rfl | ⟨h1, h2⟩
  · rw [feq_self]; cases isNaN x <;> rfl
  · rw [feq_self, feq_self, h1, h2]; simp
theorem alikeB_fe2 (hx : FE x x') (hy : FE y y') : alikeB x y = alikeB x' y' := by
  unfold alikeB
  rw [feq_self, feq_self, feq_self, feq_self, hx.nan, hy.nan]
  have : feq x y = feq x' y' := by
    rcases hx with rfl | ⟨h1, h2⟩
    · rcases hy with rfl | ⟨k1, k2⟩
      · rfl
      · rw [feq_nan (.inr k1), feq_nan (.inr k2)]
    · rw [feq_nan (.inl h1), feq_nan (.inl h2)]
  rw [this]
end

theorem nan_mod (x : Nat) : isNaN (x % 2 ^ 63) = isNaN x := by
  unfold isNaN
  rw [read_def, read_def]
  have h1 : x % 2 ^ 63 % 2 ^ 63 = x % 2 ^ 63 := Nat.mod_mod _ _
  rw [h1]
  split
  · rfl
  · split
    · rfl
    · split <;> rfl
theorem key_mod (x : Nat) : key (x % 2 ^ 63) = ((key x).natAbs : Int) := by
  unfold key
  rw [read_def, read_def]
  have h1 : x % 2 ^ 63 % 2 ^ 63 = x % 2 ^ 63 := Nat.mod_mod _ _
  have h2 : (x % 2 ^ 63 / 2 ^ 63 % 2 == 1) = false := by rw [beq_eq_false_iff_ne]; omega
  rw [h1, h2]
  split
  · rw [key_num, key_num, signed_natAbs, signed_eq]; simp
  · split
    · rw [key_num, key_num, signed_natAbs, signed_eq]; simp
    · split
      · rw [key_inf, key_inf]
        have := inf_pos
        generalize inf = B at *
        cases (x / 2 ^ 63 % 2 == 1) <;> simp <;> omega
      · rfl
/-- The greatest finite number, and its opposite. -/
def maxF : Nat := 9218868437227405311
def minF : Nat := 18442240474082181119
theorem read_maxF : double.read maxF = .number false (2 ^ 53 - 1) 971 := by decide
theorem read_minF : double.read minF = .number true (2 ^ 53 - 1) 971 := by decide
theorem nan_maxF : isNaN maxF = false := by unfold isNaN; rw [read_maxF]; rfl
theorem nan_minF : isNaN minF = false := by unfold isNaN; rw [read_minF]; rfl
theorem key_maxF : key maxF < inf := by
  unfold key
  rw [read_maxF]
  exact (dkey_bd ⟨by omega, lt_big (by omega) (by omega)⟩).2
theorem key_minF : key minF = - key maxF := by
  unfold key
  rw [read_maxF, read_minF, key_num, key_num, ← signed_opp]
  rfl
/-- Finite. -/
def finB (x : Nat) : Bool := fle x maxF && fge x minF
theorem finB_nan {x : Nat} (h : isNaN x = true) : finB x = false := by unfold finB; rw [fle_nan (.inl h)]; rfl
theorem finB_iff {x : Nat} (h : isNaN x = false) : finB x = decide (key x ≤ key maxF ∧ - key maxF ≤ key x) := by
  unfold finB
  rw [fle_iff h nan_maxF, fge_iff h nan_minF, key_minF]
  by_cases h1 : key x ≤ key maxF <;> by_cases h2 : -key maxF ≤ key x <;> simp [h1, h2]
theorem finB_not {x : Nat} (h : finB x = true) : isNaN x = false := by
  cases hn : isNaN x with
  | false => rfl
  | true => rw [finB_nan hn] at h; cases h
/-- Infinite, to either side: above the greatest one in size. -/
def infB (x : Nat) : Bool := fgt (x % 2 ^ 63) maxF
theorem infB_iff {x : Nat} (h : isNaN x = false) : infB x = !finB x := by
  unfold infB
  rw [fgt_iff (by rw [nan_mod]; exact h) nan_maxF, key_mod, finB_iff h]
  by_cases h1 : key x ≤ key maxF ∧ -key maxF ≤ key x
  · rw [decide_eq_true h1, decide_eq_false (by omega)]; rfl
  · rw [decide_eq_false h1, decide_eq_true (by omega)]; rfl
theorem infB_nan {x : Nat} (h : isNaN x = true) : infB x = false := fgt_nan (.inl (by rw [nan_mod]; exact h))
/-- As package turn says it. -/
theorem fin_turn (x : Nat) : (feq x x && !infB x) = finB x := by
  rw [feq_self]
  cases h : isNaN x with
  | true => rw [finB_nan h]; rfl
  | false => rw [infB_iff h]; simp
theorem fin_number {x : Nat} (h : finB x = true) : ∃ s m e, double.read x = .number s m e := by
  have hn := finB_not h
  rw [finB_iff hn] at h
  have h := of_decide_eq_true h
  have hk := key_maxF
  cases hr : double.read x with
  | number s m e => exact ⟨s, m, e, rfl⟩
  | infinity s =>
    exfalso
    have : key x = if s then -inf else inf := by unfold key; rw [hr]; rfl
    cases s <;> simp at this <;> omega
  | nan s t => unfold isNaN at hn; rw [hr] at hn; simp [Datum.isNaN] at hn
/-- Not below nought, no NaN: what a square is. -/
def NN (x : Nat) : Prop := (∃ m e, double.read x = .number false m e) ∨ double.read x = .infinity false
theorem NN.nan {x : Nat} (h : NN x) : isNaN x = false := by
  unfold isNaN
  rcases h with ⟨m, e, h⟩ | h <;> rw [h] <;> rfl
theorem nn_word (r : Nat) (h : r ≤ 2047 * 2 ^ 52) : NN (double.word false r) := by
  unfold NN
  rw [read_word false r h]
  split
  · exact .inl ⟨_, _, rfl⟩
  · split
    · exact .inl ⟨_, _, rfl⟩
    · exact .inr rfl
theorem nn_nearest (m : Nat) (e : Int) : NN (double.nearest false m e) := by
  unfold Format.nearest
  simp only
  split
  · exact nn_word 0 (by omega)
  · rw [infRung_d]
    exact nn_word _ (Nat.min_le_right _ _)
theorem nn_square {x r : Nat} (hx : finB x = true) (h : Gives (double.mul x x) r) : NN r := by
  obtain ⟨s, m, e, hr⟩ := fin_number hx
  unfold Format.mul at h
  rw [hr] at h
  have h : r = double.nearest (s ^^ s) (m * m) (e + e) := h
  rw [h, Bool.xor_self]
  exact nn_nearest _ _
theorem nan_sum {x y r : Nat} (hx : NN x) (hy : NN y) (h : Gives (double.add x y) r) : isNaN r = false := by
  unfold Format.add at h
  rcases hx with ⟨m, e, hx⟩ | hx <;> rcases hy with ⟨n, f, hy⟩ | hy <;> rw [hx, hy] at h
  · have h : r = double.nearest _ _ _ := h
    rw [h]; exact nan_nearest _ _ _
  · have h : r = double.write (.infinity false) := h
    rw [h]; exact nan_write rfl
  · have h : r = double.write (.infinity false) := h
    rw [h]; exact nan_write rfl
  · have h : r = double.write (.infinity false) := h
    rw [h]; exact nan_write rfl

/-- The other sign. -/
def neg (x : Nat) : Nat := x ^^^ 2 ^ 63
theorem neg_mod (x : Nat) : neg x % 2 ^ 63 = x % 2 ^ 63 := by
  unfold neg
  rw [Nat.xor_mod_two_pow, Nat.mod_self, Nat.xor_zero]
theorem neg_bit (x : Nat) : (neg x / 2 ^ 63 % 2 == 1) = !(x / 2 ^ 63 % 2 == 1) := by
  unfold neg
  rw [Nat.xor_div_two_pow, Nat.div_self (Nat.two_pow_pos _)]
  have h := Nat.xor_mod_two_pow (a := x / 2 ^ 63) (b := 1) (n := 1)
  rw [Nat.pow_one] at h
  rw [h]
  rcases Nat.mod_two_eq_zero_or_one (x / 2 ^ 63) with h | h <;> rw [h] <;> rfl
theorem read_neg (x : Nat) : double.read (neg x) = (double.read x).opposite := by
  rw [read_def, read_def, neg_mod, neg_bit]
  split
  · rfl
  · split
    · rfl
    · split <;> rfl
theorem dkey_opp (d : Datum) : dkey d.opposite = - dkey d := by
  cases d with
  | number s m e => exact signed_opp s m _
  | infinity s =>
    show dkey (.infinity (!s)) = _
    rw [key_inf, key_inf]
    cases s <;> simp
  | nan s t => rfl
theorem nan_neg (x : Nat) : isNaN (neg x) = isNaN x := by
  unfold isNaN
  rw [read_neg]
  cases double.read x <;> rfl
theorem key_neg (x : Nat) : key (neg x) = - key x := by
  unfold key
  rw [read_neg, dkey_opp]
/-- A finite number, taken apart. -/
theorem read_num {x : Nat} {s : Bool} {m : Nat} {e : Int} (h : double.read x = .number s m e) : -1074 ≤ e ∧ m < 2 ^ 53 ∧ (e + 1074).toNat ≤ 2045 := by
  rw [read_def] at h
  split at h
  · rename_i h1
    injection h with _ hm he
    omega
  · split at h
    · rename_i h1 h2
      injection h with _ hm he
      omega
    · split at h <;> cases h
/-- The format has it. -/
def Rep (V : Nat) : Prop := 2 ^ (V.log2 - 52) ∣ V ∧ V.log2 ≤ 2097
theorem rep_mul {m k : Nat} (hm : m < 2 ^ 53) (hk : k ≤ 2045) : Rep (m * 2 ^ k) := by
  by_cases h0 : m = 0
  · subst h0
    unfold Rep
    rw [Nat.zero_mul]
    exact ⟨by simp, by decide⟩
  · have h1 : m.log2 < 53 := (Nat.log2_lt h0).2 hm
    unfold Rep
    rw [log2_mul_pow m k h0]
    refine ⟨?_, by omega⟩
    exact Nat.dvd_trans (Nat.pow_dvd_pow 2 (by omega)) (Nat.dvd_mul_left _ _)
theorem rep_key {x : Nat} {s : Bool} {m : Nat} {e : Int} (h : double.read x = .number s m e) : Rep (key x).natAbs := by
  obtain ⟨h1, h2, h3⟩ := read_num h
  unfold key
  rw [h, key_num, signed_natAbs]
  exact rep_mul h2 h3
/-- What is rounded to what the format has: itself. -/
theorem key_nearest {T : Int} {z : Bool} {m : Nat} {e : Int} (he : -1074 ≤ e) (hV : T.natAbs = m * 2 ^ (e + 1074).toNat) (hr : Rep T.natAbs) (hz : T < 0 → z = true) (hz' : 0 < T → z = false) : key (double.nearest z m e) = T := by
  rw [nearest_exact z m e he _ hV hr.1 hr.2]
  rcases Int.lt_trichotomy T 0 with h | h | h
  · rw [hz h]; simp; omega
  · rw [h]; simp
  · rw [hz' h]; simp; omega
theorem signed_key {s : Bool} {m : Nat} {i base : Int} (h1 : -1074 ≤ base) (h2 : base ≤ i) : signed s m (i - base).toNat * ((2 ^ (base + 1074).toNat : Nat) : Int) = dkey (.number s m i) := by
  rw [key_num, ← signed_add]
  congr 1
  omega
theorem sum_exact {d e : Datum} {s t : Bool} {m n : Nat} {i j : Int} (hd : d = .number s m i) (he : e = .number t n j) (h1 : -1074 ≤ i) (h2 : -1074 ≤ j) (hr : Rep (dkey d + dkey e).natAbs) {o : Datum} (h : d.sum e = some o) : isNaN (double.write o) = false ∧ key (double.write o) = dkey d + dkey e := by
  subst hd he
  unfold Datum.sum at h
  simp only at h
  injection h with h
  subst h
  refine ⟨nan_nearest _ _ _, ?_⟩
  have e1 := signed_key (s := s) (m := m) (i := i) (base := min i j) (by omega) (by omega)
  have e2 := signed_key (s := t) (m := n) (i := j) (base := min i j) (by omega) (by omega)
  rw [← e1, ← e2, ← Int.add_mul] at hr ⊢
  generalize signed s m (i - min i j).toNat + signed t n (j - min i j).toNat = T at *
  have hp : (0 : Int) < ((2 ^ (min i j + 1074).toNat : Nat) : Int) := Int.natCast_pos.2 (Nat.two_pow_pos _)
  refine key_nearest (by omega) ?_ hr ?_ ?_
  · rw [Int.natAbs_mul, Int.natAbs_natCast]
  · intro h
    have : T < 0 := by
      rcases Int.lt_or_le T 0 with h3 | h3
      · exact h3
      · have := Int.mul_nonneg h3 (Int.le_of_lt hp); omega
    rw [if_neg (by omega), decide_eq_true this]
  · intro h
    have : 0 < T := by
      rcases Int.lt_or_le 0 T with h3 | h3
      · exact h3
      · have := Int.mul_nonneg (a := -T) (by omega) (Int.le_of_lt hp)
        rw [Int.neg_mul] at this; omega
    rw [if_neg (by omega), decide_eq_false (by omega)]
theorem sum_some {s t : Bool} {m n : Nat} {i j : Int} : ∃ o, (Datum.number s m i).sum (.number t n j) = some o := ⟨_, rfl⟩
/-- A number, not infinite. -/
def Num (x : Nat) : Prop := ∃ s m e, double.read x = .number s m e
theorem Num.nan {x : Nat} (h : Num x) : isNaN x = false := by
  obtain ⟨s, m, e, h⟩ := h
  unfold isNaN; rw [h]; rfl
theorem Num.rep {x : Nat} (h : Num x) : Rep (key x).natAbs := by
  obtain ⟨s, m, e, h⟩ := h
  exact rep_key h
theorem Num.neg {x : Nat} (h : Num x) : Num (neg x) := by
  obtain ⟨s, m, e, h⟩ := h
  exact ⟨!s, m, e, by rw [read_neg, h]; rfl⟩
theorem add_exact {x y r : Nat} (hx : Num x) (hy : Num y) (h : Gives (double.add x y) r) (hr : Rep (key x + key y).natAbs) : isNaN r = false ∧ key r = key x + key y := by
  obtain ⟨s, m, i, hx⟩ := hx
  obtain ⟨t, n, j, hy⟩ := hy
  obtain ⟨o, ho⟩ := sum_some (s := s) (t := t) (m := m) (n := n) (i := i) (j := j)
  unfold Format.add at h
  rw [hx, hy, ho] at h
  have h : r = double.write o := h
  rw [h]
  exact sum_exact (d := double.read x) (e := double.read y) hx hy (read_num hx).1 (read_num hy).1 hr (by rw [hx, hy, ho])
theorem sub_exact {x y r : Nat} (hx : Num x) (hy : Num y) (h : Gives (double.sub x y) r) (hr : Rep (key x - key y).natAbs) : isNaN r = false ∧ key r = key x - key y := by
  have h : Gives (double.add x (Flo.neg y)) r := by
    unfold Format.add
    rw [read_neg]
    exact h
  have := add_exact hx hy.neg h (by rw [key_neg]; exact hr)
  rw [key_neg] at this
  exact this
theorem num_zero : Num 0 := ⟨false, 0, -1074, by decide⟩
theorem key_zero : key 0 = 0 := by decide
theorem num_or {x : Nat} (h : isNaN x = false) : Num x ∨ ∃ s, double.read x = .infinity s := by
  cases hr : double.read x with
  | number s m e => exact .inl ⟨s, m, e, hr⟩
  | infinity s => exact .inr ⟨s, rfl⟩
  | nan s t => unfold isNaN at h; rw [hr] at h; simp [Datum.isNaN] at h
/-- Nought less a number: its opposite. -/
theorem zero_sub {x r : Nat} (hx : isNaN x = false) (h : Gives (double.sub 0 x) r) : isNaN r = false ∧ key r = - key x := by
  rcases num_or hx with hn | ⟨s, hs⟩
  · have := sub_exact num_zero hn h (by rw [key_zero, Int.zero_sub, Int.natAbs_neg]; exact hn.rep)
    rw [key_zero, Int.zero_sub] at this
    exact this
  · unfold Format.sub at h
    obtain ⟨t, m, e, h0⟩ := num_zero
    rw [h0, hs] at h
    have h : r = double.word (!s) double.infRung := h
    rw [infRung_d] at h
    rw [h, (key_word_inf (!s)).2]
    refine ⟨(key_word_inf (!s)).1, ?_⟩
    unfold key
    rw [hs, key_inf]
    cases s <;> simp

/-- One, in units of the least place. -/
def uExp : Nat := 1074
def U : Nat := 2 ^ uExp
theorem U_pos : 0 < U := Nat.two_pow_pos _
theorem pow_U {k : Nat} (h : k = uExp) : 2 ^ k = U := by subst h; rfl
theorem cut_re (s : Bool) (m k : Nat) : 2 * m ≤ 2 * (Toward.even.cut s m k * 2 ^ k) + 2 ^ k ∧ 2 * (Toward.even.cut s m k * 2 ^ k) ≤ 2 * m + 2 ^ k ∧
    (2 * m = 2 * (Toward.even.cut s m k * 2 ^ k) + 2 ^ k → Toward.even.cut s m k % 2 = 0) ∧ (2 * (Toward.even.cut s m k * 2 ^ k) = 2 * m + 2 ^ k → Toward.even.cut s m k % 2 = 0) := by
  have hl : m < 2 ^ (m.log2 + 1) := Nat.lt_log2_self
  unfold Toward.cut
  simp only [Nat.shiftLeft_eq, Nat.one_mul]
  by_cases hk : k ≤ m.log2 + 2
  · rw [Nat.min_eq_left hk]
    have hp : 0 < 2 ^ k := Nat.two_pow_pos _
    generalize 2 ^ k = g at *
    have h1 := Nat.div_add_mod m g
    have h2 := Nat.mod_lt m hp
    have hc : m / g * g = g * (m / g) := Nat.mul_comm _ _
    have hd : (m / g + 1) * g = g * (m / g) + g := by rw [Nat.add_mul, Nat.one_mul, hc]
    generalize m % g = r at *
    generalize hq : m / g = q at *
    generalize g * q = P at *
    by_cases c1 : g < 2 * r
    · have e : (decide (g < 2 * r) || (g == 2 * r && q % 2 == 1)) = true := by simp [c1]
      rw [e]
      simp only [Bool.toNat_true, hd]
      omega
    · by_cases c2 : g = 2 * r
      · by_cases c3 : q % 2 = 1
        · have e : (decide (g < 2 * r) || (g == 2 * r && q % 2 == 1)) = true := by simp [c2, c3]
          rw [e]
          simp only [Bool.toNat_true, hd]
          omega
        · have e : (decide (g < 2 * r) || (g == 2 * r && q % 2 == 1)) = false := by simp [c2]; omega
          rw [e]
          simp only [Bool.toNat_false, Nat.add_zero, hc]
          omega
      · have e : (decide (g < 2 * r) || (g == 2 * r && q % 2 == 1)) = false := by simp [c2]; omega
        rw [e]
        simp only [Bool.toNat_false, Nat.add_zero, hc]
        omega
  · rw [Nat.min_eq_right (by omega)]
    have h3 : 2 ^ (m.log2 + 2) = 2 * 2 ^ (m.log2 + 1) := by rw [Nat.pow_succ]; omega
    have h4 : 2 ^ (m.log2 + 2) ≤ 2 ^ k := Nat.pow_le_pow_right (by omega) (by omega)
    generalize hg : 2 ^ (m.log2 + 2) = g at *
    generalize 2 ^ k = K at *
    have h5 : m / g = 0 := Nat.div_eq_of_lt (by omega)
    have h6 : m % g = m := Nat.mod_eq_of_lt (by omega)
    rw [h5, h6]
    have e : (decide (g < 2 * m) || (g == 2 * m && 0 % 2 == 1)) = false := by simp; omega
    rw [e]
    simp only [Bool.toNat_false, Nat.add_zero, Nat.zero_mul]
    omega
theorem cut_none (w : Toward) (s : Bool) (n : Nat) : w.cut s n 0 = n := by
  unfold Toward.cut
  simp only [Nat.zero_min, Nat.shiftLeft_zero, Nat.div_one, Nat.mod_one]
  cases w <;> simp
theorem cut_zero (s : Bool) (m k : Nat) : Toward.zero.cut s m k = m / 2 ^ k := by
  have hl : m < 2 ^ (m.log2 + 1) := Nat.lt_log2_self
  unfold Toward.cut
  simp only [Nat.shiftLeft_eq, Nat.one_mul, Bool.toNat_false, Nat.add_zero]
  by_cases hk : k ≤ m.log2 + 2
  · rw [Nat.min_eq_left hk]
  · rw [Nat.min_eq_right (by omega)]
    have h3 : 2 ^ (m.log2 + 2) = 2 * 2 ^ (m.log2 + 1) := by rw [Nat.pow_succ]; omega
    have h4 : 2 ^ (m.log2 + 2) ≤ 2 ^ k := Nat.pow_le_pow_right (by omega) (by omega)
    rw [Nat.div_eq_of_lt (by omega), Nat.div_eq_of_lt (by omega)]
/-- N is the whole number nearest to X / U, the even one of two. -/
def IsRE (X N : Int) : Prop := 2 * X ≤ 2 * (N * U) + U ∧ 2 * (N * U) ≤ 2 * X + U ∧ (2 * X = 2 * (N * U) + U → N % 2 = 0) ∧ (2 * (N * U) = 2 * X + U → N % 2 = 0)
theorem IsRE.neg {X N : Int} (h : IsRE X N) : IsRE (-X) (-N) := by
  unfold IsRE at *
  rw [Int.neg_mul]
  generalize (N * (U : Int)) = P at *
  omega
theorem IsRE.unique {X N M : Int} (h : IsRE X N) (k : IsRE X M) : N = M := by
  have hu := U_pos
  unfold IsRE at *
  have key : ∀ {A B : Int}, A < B → A * U + U ≤ B * U := fun {A B} hab => by
    have := Int.mul_le_mul_of_nonneg_right (show A + 1 ≤ B by omega) (show (0 : Int) ≤ U by omega)
    rw [Int.add_mul, Int.one_mul] at this
    exact this
  rcases Int.lt_trichotomy N M with c | c | c
  · have h1 := key c
    have h2 : M = N + 1 := by
      rcases Int.lt_or_le (N + 1) M with d | d
      · exfalso
        have h3 := key d
        have h4 : (N + 1) * (U : Int) = N * U + U := by rw [Int.add_mul, Int.one_mul]
        omega
      · omega
    subst h2
    rw [Int.add_mul, Int.one_mul] at *
    omega
  · exact c
  · have h1 := key c
    have h2 : N = M + 1 := by
      rcases Int.lt_or_le (M + 1) N with d | d
      · exfalso
        have h3 := key d
        have h4 : (M + 1) * (U : Int) = M * U + U := by rw [Int.add_mul, Int.one_mul]
        omega
      · omega
    subst h2
    rw [Int.add_mul, Int.one_mul] at *
    omega
theorem re_nat {X M : Nat} (s : Bool) (h : 2 * X ≤ 2 * (M * U) + U ∧ 2 * (M * U) ≤ 2 * X + U ∧ (2 * X = 2 * (M * U) + U → M % 2 = 0) ∧ (2 * (M * U) = 2 * X + U → M % 2 = 0)) : IsRE ((if s then -1 else 1) * (X : Int)) ((if s then -1 else 1) * (M : Int)) := by
  have h1 : IsRE (X : Int) (M : Int) := by
    unfold IsRE
    rw [show (M : Int) * (U : Int) = ((M * U : Nat) : Int) from (Int.natCast_mul _ _).symm]
    generalize M * U = P at *
    omega
  cases s
  · simpa using h1
  · simpa using h1.neg
/-- Rounded to a whole number. -/
def evenF (x : Nat) : Nat := double.write ((double.read x).integral .even)
theorem U_split {k : Nat} (h : k ≤ 1074) : U = 2 ^ k * 2 ^ (1074 - k) := by
  unfold U uExp
  rw [← Nat.pow_add]
  congr 1
  omega
theorem even_spec {x : Nat} (hx : Num x) : ∃ N : Int, isNaN (evenF x) = false ∧ key (evenF x) = N * U ∧ IsRE (key x) N := by
  obtain ⟨s, m, e, h⟩ := hx
  obtain ⟨h1, h2, h3⟩ := read_num h
  unfold evenF key
  rw [h]
  simp only [Datum.integral, Format.write]
  have hU0 : ((0 : Int) + 1074).toNat = uExp := by unfold uExp; omega
  have hU1 : U = 2 ^ ((0 : Int) + 1074).toNat := (pow_U (by unfold uExp; omega)).symm
  generalize hM : Toward.even.cut s (m <<< e.toNat) (-e).toNat = M
  have hr : Rep (M * 2 ^ ((0 : Int) + 1074).toNat) := by
    by_cases he : 0 ≤ e
    · rw [show (-e).toNat = 0 by omega, cut_none, Nat.shiftLeft_eq] at hM
      rw [← hM, Nat.mul_assoc, ← Nat.pow_add]
      exact rep_mul h2 (by omega)
    · have c := (cut_re s (m <<< e.toNat) (-e).toNat).2.1
      rw [hM, show e.toNat = 0 by omega, Nat.shiftLeft_zero] at c
      have hp : 2 ≤ 2 ^ (-e).toNat := Nat.le_trans (by decide) (Nat.pow_le_pow_right (by omega) (show 1 ≤ (-e).toNat by omega))
      refine rep_mul ?_ (by omega)
      generalize 2 ^ (-e).toNat = g at *
      have : M < m + 1 := by
        rcases Nat.lt_or_ge M (m + 1) with d | d
        · exact d
        · exfalso
          have e1 := Nat.mul_le_mul_right g d
          rw [Nat.add_mul, Nat.one_mul] at e1
          have e2 := Nat.mul_le_mul_left m hp
          omega
      omega
  have hT : (signed s M ((0 : Int) + 1074).toNat).natAbs = M * 2 ^ ((0 : Int) + 1074).toNat := signed_natAbs _ _ _
  refine ⟨(if s then -1 else 1) * (M : Int), nan_nearest _ _ _, ?_, ?_⟩
  · have := key_nearest (T := signed s M ((0 : Int) + 1074).toNat) (z := s) (m := M) (e := 0) (by omega) hT (by rw [hT]; exact hr)
      (fun hn => by
        rw [signed_eq, pow_U hU0] at hn
        cases s
        · exfalso
          rw [if_neg (by decide), Int.one_mul] at hn
          omega
        · rfl)
      (fun hn => by
        rw [signed_eq, pow_U hU0] at hn
        cases s
        · rfl
        · exfalso
          rw [if_pos rfl] at hn
          omega)
    unfold key at this
    rw [this, signed_eq, hU1, Int.mul_assoc, ← Int.natCast_mul]
  · rw [key_num, signed_eq]
    refine re_nat s ?_
    by_cases he : 0 ≤ e
    · rw [show (-e).toNat = 0 by omega, cut_none, Nat.shiftLeft_eq] at hM
      have : m * 2 ^ (e + 1074).toNat = M * U := by
        rw [← hM, show (e + 1074).toNat = e.toNat + uExp by unfold uExp; omega, Nat.pow_add, Nat.mul_assoc, pow_U rfl]
      rw [this]
      have := U_pos
      generalize M * U = P at *
      omega
    · have c := cut_re s (m <<< e.toNat) (-e).toNat
      rw [hM, show e.toNat = 0 by omega, Nat.shiftLeft_zero] at c
      rw [show (e + 1074).toNat = 1074 - (-e).toNat by omega, U_split (k := (-e).toNat) (by omega), ← Nat.mul_assoc M]
      generalize 2 ^ (-e).toNat = g at *
      have hq : 0 < 2 ^ (1074 - (-e).toNat) := Nat.two_pow_pos _
      generalize 2 ^ (1074 - (-e).toNat) = q at *
      obtain ⟨c1, c2, c3, c4⟩ := c
      have k1 := Nat.mul_le_mul_right q c1
      have k2 := Nat.mul_le_mul_right q c2
      rw [Nat.add_mul, Nat.mul_assoc 2, Nat.mul_assoc 2] at k1
      rw [Nat.add_mul, Nat.mul_assoc 2, Nat.mul_assoc 2] at k2
      refine ⟨k1, k2, fun hh => c3 ?_, fun hh => c4 ?_⟩
      · refine Nat.eq_of_mul_eq_mul_right hq ?_
        rw [Nat.add_mul, Nat.mul_assoc 2, Nat.mul_assoc 2]
        exact hh
      · refine Nat.eq_of_mul_eq_mul_right hq ?_
        rw [Nat.add_mul, Nat.mul_assoc 2, Nat.mul_assoc 2]
        exact hh
/-- Cut off. -/
theorem toInt_key {x : Nat} (hx : Num x) : (double.read x).toInt .zero = some (Int.tdiv (key x) U) := by
  obtain ⟨s, m, e, h⟩ := hx
  obtain ⟨h1, h2, h3⟩ := read_num h
  unfold key
  rw [h]
  unfold Datum.toInt
  simp only [Datum.integral]
  congr 1
  rw [key_num, signed_eq, signed_eq, Nat.pow_zero, Nat.mul_one, cut_zero, Nat.shiftLeft_eq]
  have hC : m * 2 ^ e.toNat / 2 ^ (-e).toNat = m * 2 ^ (e + 1074).toNat / U := by
    by_cases he : 0 ≤ e
    · rw [show (-e).toNat = 0 by omega, Nat.pow_zero, Nat.div_one, show (e + 1074).toNat = e.toNat + uExp by unfold uExp; omega, Nat.pow_add, ← Nat.mul_assoc, pow_U rfl]
      exact (Nat.mul_div_cancel _ U_pos).symm
    · rw [show e.toNat = 0 by omega, Nat.pow_zero, Nat.mul_one, show (e + 1074).toNat = 1074 - (-e).toNat by omega, U_split (k := (-e).toNat) (by omega), Nat.mul_div_mul_right _ _ (Nat.two_pow_pos _)]
  rw [hC]
  cases s
  · rw [if_neg (by decide), Int.one_mul, Int.one_mul, ← Int.ofNat_tdiv]
  · rw [if_pos rfl, Int.neg_mul, Int.one_mul, Int.neg_mul, Int.one_mul, Int.neg_tdiv, ← Int.ofNat_tdiv]
theorem toInt_whole {x : Nat} (hx : Num x) {N : Int} (h : key x = N * U) : (double.read x).toInt .zero = some N := by
  rw [toInt_key hx, h, Int.mul_tdiv_cancel _ (by have := U_pos; omega)]

/-- A whole number as a float. -/
abbrev fl (n : Int) : Nat := Go.floatOfInt .f64 n
theorem fl_eq (n : Int) : fl n = double.nearest (decide (n < 0)) n.natAbs 0 := rfl
theorem rep_whole {n : Nat} (h : n ≤ 2 ^ 53) : Rep (n * U) := by
  rcases Nat.lt_or_eq_of_le h with h | h
  · exact rep_mul h (by unfold uExp; omega)
  · rw [h, show 2 ^ 53 * U = 1 * 2 ^ (53 + uExp) by unfold U; rw [Nat.pow_add, Nat.one_mul]]
    exact rep_mul (by omega) (by unfold uExp; omega)
/-- A bound for whole numbers. -/
def wExp : Nat := 100
theorem U_lt_inf {n : Nat} (h : n ≤ 2 ^ wExp) : ((n * U : Nat) : Int) < inf := by
  unfold inf big U
  have h1 : n * 2 ^ uExp < 2 ^ bigE := by
    refine lt_gen (p := wExp + 1) (q := uExp) ?_ (Nat.le_refl _) (by unfold wExp uExp bigE; omega)
    exact Nat.lt_of_le_of_lt h (Nat.pow_lt_pow_right (by omega) (by omega))
  omega
theorem num_of_key {x : Nat} (h : isNaN x = false) (h1 : -inf < key x) (h2 : key x < inf) : Num x := by
  rcases num_or h with h | ⟨s, h⟩
  · exact h
  · exfalso
    unfold key at h1 h2
    rw [h, key_inf] at h1 h2
    cases s <;> simp at h1 h2
theorem mul_U_abs (n : Int) : (n * (U : Int)).natAbs = n.natAbs * U := by rw [Int.natAbs_mul, Int.natAbs_natCast]
theorem num_of_whole {x : Nat} {n : Int} (h : isNaN x = false) (hk : key x = n * U) (hn : n.natAbs ≤ 2 ^ wExp) : Num x := by
  have h1 := U_lt_inf hn
  have h2 := mul_U_abs n
  exact num_of_key h (by omega) (by omega)
/-- Whole: it stands for n. -/
def IsW (x : Nat) (n : Int) : Prop := Num x ∧ key x = n * U
theorem isW_fl {n : Int} (h : n.natAbs ≤ 2 ^ 53) : IsW (fl n) n := by
  have hu := U_pos
  have hn : isNaN (fl n) = false := nan_nearest _ _ _
  have hk : key (fl n) = n * U := by
    rw [fl_eq]
    refine key_nearest (T := n * U) (by omega) (by rw [mul_U_abs, ← pow_U (k := ((0 : Int) + 1074).toNat) (by unfold uExp; omega)]) (by rw [mul_U_abs]; exact rep_whole h) (fun hh => ?_) (fun hh => ?_)
    · refine decide_eq_true ?_
      rcases Int.lt_or_le n 0 with c | c
      · exact c
      · have := Int.mul_nonneg c (show (0 : Int) ≤ U by omega); omega
    · refine decide_eq_false ?_
      intro c
      have := Int.mul_nonneg (show 0 ≤ -n by omega) (show (0 : Int) ≤ U by omega)
      rw [Int.neg_mul] at this
      omega
  exact ⟨num_of_whole hn hk (Nat.le_trans h (Nat.pow_le_pow_right (by omega) (by unfold wExp; omega))), hk⟩
theorem mulU_le {a b : Int} : a * (U : Int) ≤ b * U ↔ a ≤ b := by
  have hu : (0 : Int) < U := by have := U_pos; omega
  exact ⟨fun h => Int.le_of_mul_le_mul_right h hu, fun h => Int.mul_le_mul_of_nonneg_right h (by omega)⟩
theorem mulU_lt {a b : Int} : a * (U : Int) < b * U ↔ a < b := by
  have := @mulU_le b a
  omega
theorem mulU_eq {a b : Int} : a * (U : Int) = b * U ↔ a = b := by
  have := @mulU_le b a
  have := @mulU_le a b
  omega
/-- The nearest whole number, as package real tells it. -/
def loF : Nat := 13965662444467519488
def hiF : Nat := 4742290407612743680
def farB (r : Nat) : Bool := flt r loF || fgt r hiF
def nearE (x : Nat) : Int := if isNaN x = true then 20 else if farB (evenF x) = true then 21 else 0
def nearV (x : Nat) : Int := if isNaN x = true then 0 else if farB (evenF x) = true then 0 else ((double.read (evenF x)).toInt .zero).getD 0
theorem isW_lo : IsW loF (-1073741823) := by rw [show loF = fl (-1073741823) by decide]; exact isW_fl (by decide)
theorem isW_hi : IsW hiF 1073741823 := by rw [show hiF = fl 1073741823 by decide]; exact isW_fl (by decide)
theorem even_nan {x : Nat} (h : isNaN x = false) : isNaN (evenF x) = false := by
  unfold evenF
  refine nan_write ?_
  unfold isNaN at h
  cases hr : double.read x with
  | number s m e => rfl
  | infinity s => rfl
  | nan s t => rw [hr] at h; exact h
/-- Where it is not far: a whole number. -/
theorem near_whole {x : Nat} (hx : isNaN x = false) (h : farB (evenF x) = false) : ∃ N : Int, -1073741823 ≤ N ∧ N ≤ 1073741823 ∧ IsRE (key x) N ∧ Num x ∧ IsW (evenF x) N ∧ (double.read (evenF x)).toInt .zero = some N := by
  have hn := even_nan hx
  unfold farB at h
  rw [flt_iff hn isW_lo.1.nan, fgt_iff hn isW_hi.1.nan, isW_lo.2, isW_hi.2] at h
  simp only [Bool.or_eq_false_iff, decide_eq_false_iff_not] at h
  rcases num_or hx with hN | ⟨s, hs⟩
  · obtain ⟨N, h1, h2, h3⟩ := even_spec hN
    rw [h2] at h
    rw [mulU_lt, mulU_lt] at h
    have hw : Num (evenF x) := num_of_whole h1 h2 (by
      have : N.natAbs ≤ 2 ^ 30 := by omega
      exact Nat.le_trans this (Nat.pow_le_pow_right (by omega) (by unfold wExp; omega)))
    exact ⟨N, by omega, by omega, h3, hN, ⟨hw, h2⟩, toInt_whole hw h2⟩
  · exfalso
    have hk : key (evenF x) = (if s then -1 else 1) * inf := by
      unfold evenF
      rw [hs]
      show key (double.word s double.infRung) = _
      rw [infRung_d]
      exact (key_word_inf s).2
    rw [hk] at h
    have h9 := U_lt_inf (n := 1073741823) (Nat.le_trans (show 1073741823 ≤ 2 ^ 30 by omega) (Nat.pow_le_pow_right (by omega) (by unfold wExp; omega)))
    rw [Int.natCast_mul] at h9
    have h8 : ((1073741823 : Nat) : Int) = 1073741823 := rfl
    rw [h8] at h9
    generalize inf = B at *
    generalize (U : Int) = u at *
    cases s <;> simp at h <;> omega
theorem near_i32 {x : Nat} (hx : isNaN x = false) (h : farB (evenF x) = false) : Go.floatToIntVal .f64 (evenF x) .i32 = some (nearV x) := by
  obtain ⟨N, h1, h2, _, _, _, h5⟩ := near_whole hx h
  unfold nearV
  rw [if_neg (by rw [hx]; decide), if_neg (by rw [h]; decide), h5]
  unfold Go.floatToIntVal
  have : (Go.FloatKind.f64.decode (evenF x)).toInt .zero = some N := h5
  rw [this]
  exact if_pos ⟨Int.le_trans (by decide) h1, Int.le_trans h2 (by decide)⟩

/-- What a number is rounded to. V: the number in units of the least place. -/
theorem round_spec (s : Bool) (m : Nat) (e : Int) (he : -1074 ≤ e) (hm : m ≠ 0) (V : Nat) (hV : V = m * 2 ^ (e + 1074).toNat) (hb : V.log2 ≤ 2096) :
    ∃ K, key (double.nearest s m e) = (if s then -1 else 1) * ((K * 2 ^ (V.log2 - 52) : Nat) : Int) ∧ K ≤ 2 ^ 53 ∧ (0 < V.log2 - 52 → 2 ^ 52 ≤ K) ∧
      2 * V ≤ 2 * (K * 2 ^ (V.log2 - 52)) + 2 ^ (V.log2 - 52) ∧ 2 * (K * 2 ^ (V.log2 - 52)) ≤ 2 * V + 2 ^ (V.log2 - 52) ∧ (V.log2 ≤ 52 → K = V) := by
  have hVn : V ≠ 0 := by rw [hV]; exact Nat.mul_ne_zero hm (Nat.ne_of_gt (Nat.two_pow_pos _))
  have hlog : V.log2 = m.log2 + (e + 1074).toNat := by rw [hV]; exact log2_mul_pow m _ hm
  have hlo := Nat.log2_self_le hVn
  have hhi : V < 2 ^ (V.log2 + 1) := Nat.lt_log2_self
  unfold Format.nearest
  simp only
  rw [if_neg hm, infRung_d, binade_d, leastPlace_d]
  rw [show double.fractionBits = 52 from rfl]
  obtain ⟨q, hq⟩ : ∃ q, q = V.log2 - 52 := ⟨_, rfl⟩
  rw [← hq]
  rw [show max (e + (m.log2 : Int) - ((52 : Nat) : Int)) (-1074) = (q : Int) - 1074 by omega, show ((q : Int) - 1074 - -1074).toNat = q by omega]
  generalize hK : Toward.even.cut s (m <<< (e - ((q : Int) - 1074)).toNat) ((q : Int) - 1074 - e).toNat = K
  have hk : (2 * V ≤ 2 * (K * 2 ^ q) + 2 ^ q ∧ 2 * (K * 2 ^ q) ≤ 2 * V + 2 ^ q) ∧ (q = 0 → K = V) := by
    by_cases hc : (q : Int) - 1074 ≤ e
    · rw [show ((q : Int) - 1074 - e).toNat = 0 by omega, cut_none, Nat.shiftLeft_eq] at hK
      have e1 : V = K * 2 ^ q := by
        rw [hV, ← hK, Nat.mul_assoc, ← Nat.pow_add]
        congr 2
        omega
      rw [← e1]
      have := Nat.two_pow_pos q
      refine ⟨by omega, fun h => ?_⟩
      rw [h, Nat.pow_zero, Nat.mul_one] at e1
      exact e1.symm
    · have c := cut_re s m ((q : Int) - 1074 - e).toNat
      rw [show (e - ((q : Int) - 1074)).toNat = 0 by omega, Nat.shiftLeft_zero] at hK
      rw [hK] at c
      have e3 : q = ((q : Int) - 1074 - e).toNat + (e + 1074).toNat := by omega
      refine ⟨?_, fun h => by omega⟩
      generalize ((q : Int) - 1074 - e).toNat = g at *
      rw [hV, e3, Nat.pow_add, ← Nat.mul_assoc K]
      have hp := Nat.two_pow_pos (e + 1074).toNat
      generalize 2 ^ (e + 1074).toNat = P at *
      have k1 := Nat.mul_le_mul_right P c.1
      have k2 := Nat.mul_le_mul_right P c.2.1
      rw [Nat.add_mul, Nat.mul_assoc 2, Nat.mul_assoc 2] at k1 k2
      exact ⟨k1, k2⟩
  obtain ⟨⟨h1, h2⟩, h3⟩ := hk
  have hp := Nat.two_pow_pos q
  have hKu : K ≤ 2 ^ 53 := by
    rcases Nat.lt_or_ge (2 ^ 53) K with h | h
    · exfalso
      have k1 := Nat.mul_le_mul_right (2 ^ q) h
      rw [Nat.succ_mul] at k1
      have k2 : V < 2 ^ 53 * 2 ^ q := by
        rw [← Nat.pow_add]
        exact Nat.lt_of_lt_of_le hhi (Nat.pow_le_pow_right (by omega) (by omega))
      omega
    · exact h
  have hKl : 0 < q → 2 ^ 52 ≤ K := fun h0 => by
    rcases Nat.lt_or_ge K (2 ^ 52) with h | h
    · exfalso
      have k1 := Nat.mul_le_mul_right (2 ^ q) h
      rw [Nat.succ_mul] at k1
      have k2 : 2 ^ 52 * 2 ^ q ≤ V := by
        rw [← Nat.pow_add]
        exact Nat.le_trans (Nat.pow_le_pow_right (by omega) (by omega)) hlo
      omega
    · exact h
  have hr : q * 2 ^ 52 + K < 2047 * 2 ^ 52 := by
    have : q ≤ 2044 := by omega
    omega
  rw [Nat.min_eq_left (by omega), (key_word s _ hr).2, rungVal_eq q _ hKu hKl]
  exact ⟨K, rfl, hKu, hKl, h1, h2, fun h => h3 (by omega)⟩
/-- No power of two is passed. -/
theorem round_above {V K p : Nat} (hv : 2 ^ p ≤ V) (h1 : 0 < V.log2 - 52 → 2 ^ 52 ≤ K) (h2 : V.log2 ≤ 52 → K = V) : 2 ^ p ≤ K * 2 ^ (V.log2 - 52) := by
  have hVn : V ≠ 0 := by have := Nat.two_pow_pos p; omega
  by_cases h : V.log2 ≤ 52
  · rw [h2 h, show V.log2 - 52 = 0 by omega, Nat.pow_zero, Nat.mul_one]
    exact hv
  · have k := Nat.mul_le_mul_right (2 ^ (V.log2 - 52)) (h1 (by omega))
    rw [← Nat.pow_add] at k
    exact Nat.le_trans (Nat.pow_le_pow_right (by omega) (show p ≤ 52 + (V.log2 - 52) by have := (Nat.le_log2 hVn).2 hv; omega)) k
/-- A sum, as it is written. -/
theorem sum_written {x y r : Nat} (hx : Num x) (hy : Num y) (h : Gives (double.add x y) r) : ∃ z m e, -1074 ≤ e ∧ r = double.nearest z m e ∧ (key x + key y).natAbs = m * 2 ^ (e + 1074).toNat ∧ (key x + key y < 0 → z = true) ∧ (0 < key x + key y → z = false) := by
  obtain ⟨s, m, i, hx⟩ := hx
  obtain ⟨t, n, j, hy⟩ := hy
  have hi := (read_num hx).1
  have hj := (read_num hy).1
  unfold Format.add at h
  unfold key
  rw [hx, hy] at h ⊢
  have h : r = double.nearest (if signed s m (i - min i j).toNat + signed t n (j - min i j).toNat = 0 then s && t else decide (signed s m (i - min i j).toNat + signed t n (j - min i j).toNat < 0)) (signed s m (i - min i j).toNat + signed t n (j - min i j).toNat).natAbs (min i j) := h
  refine ⟨_, _, _, ?_, h, ?_⟩
  · omega
  rw [← signed_key (s := s) (m := m) (i := i) (base := min i j) (by omega) (by omega), ← signed_key (s := t) (m := n) (i := j) (base := min i j) (by omega) (by omega), ← Int.add_mul]
  generalize signed s m (i - min i j).toNat + signed t n (j - min i j).toNat = T
  have hp : (0 : Int) < ((2 ^ (min i j + 1074).toNat : Nat) : Int) := Int.natCast_pos.2 (Nat.two_pow_pos _)
  refine ⟨by rw [Int.natAbs_mul, Int.natAbs_natCast], fun h => ?_, fun h => ?_⟩
  · have : T < 0 := by
      rcases Int.lt_or_le T 0 with h3 | h3
      · exact h3
      · have := Int.mul_nonneg h3 (Int.le_of_lt hp); omega
    rw [if_neg (by omega), decide_eq_true this]
  · have : 0 < T := by
      rcases Int.lt_or_le 0 T with h3 | h3
      · exact h3
      · have := Int.mul_nonneg (a := -T) (by omega) (Int.le_of_lt hp)
        rw [Int.neg_mul] at this; omega
    rw [if_neg (by omega), decide_eq_false (by omega)]
theorem diff_written {x y r : Nat} (hx : Num x) (hy : Num y) (h : Gives (double.sub x y) r) : ∃ z m e, -1074 ≤ e ∧ r = double.nearest z m e ∧ (key x - key y).natAbs = m * 2 ^ (e + 1074).toNat ∧ (key x - key y < 0 → z = true) ∧ (0 < key x - key y → z = false) := by
  have h : Gives (double.add x (Flo.neg y)) r := by
    unfold Format.add
    rw [read_neg]
    exact h
  have := sum_written hx hy.neg h
  rw [key_neg] at this
  exact this
/-- One half. -/
def halfF : Nat := 4602678819172646912
theorem read_half : double.read halfF = .number false (2 ^ 52) (-53) := by decide
theorem half_num : Num halfF := ⟨_, _, _, read_half⟩
theorem U_two {k : Nat} (h : k + 1 = uExp) : U = 2 * 2 ^ k := by unfold U; rw [← h, Nat.pow_succ]; omega
theorem key_half : 2 * key halfF = U := by
  unfold key
  rw [read_half, key_num, signed_eq, if_neg (by decide), Int.one_mul, ← Nat.pow_add, U_two (k := 52 + ((-53 : Int) + 1074).toNat) (by unfold uExp; omega)]
  rw [Int.natCast_mul]
  rfl
/-- One half, in units of the least place. -/
def hExp : Nat := 1073
def topE : Nat := 2097
theorem toU {k : Nat} (h : k ≤ 1074) : U = 2 ^ (1074 - k) * 2 ^ k := by rw [U_split h, Nat.mul_comm]
theorem floor_U (X : Int) : X / (U : Int) * U ≤ X ∧ X < X / (U : Int) * U + U := by
  have hu : (U : Int) ≠ 0 := by have := U_pos; omega
  have h1 := Int.mul_ediv_add_emod X U
  have h2 := Int.emod_nonneg X hu
  have h3 := Int.emod_lt_of_pos X (show (0 : Int) < U by have := U_pos; omega)
  rw [Int.mul_comm] at h1
  generalize X / (U : Int) * U = P at *
  omega
/-- The rest behind a whole number: just so, or less than a half below nought. -/
theorem rest_ok {x r : Nat} (hx : Num x) {n : Int} (hn : n = key x / U) (hs : n.natAbs ≤ 2 ^ 53) (h : Gives (double.sub x (fl n)) r) : isNaN r = false ∧ (key r = key x - n * U ∨ (n = -1 ∧ (U : Int) ≤ 2 * (key x + U) ∧ (U : Int) ≤ 2 * key r)) := by
  have hf := isW_fl hs
  have hfl := floor_U (key x)
  rw [← hn] at hfl
  obtain ⟨s, m, e, hr⟩ := hx
  obtain ⟨b1, b2, b3⟩ := read_num hr
  have hk : key x = (if s then -1 else 1) * ((m * 2 ^ (e + 1074).toNat : Nat) : Int) := by unfold key; rw [hr, key_num, signed_eq]
  have hN : Num x := ⟨_, _, _, hr⟩
  by_cases hw : Rep (key x - n * U).natAbs
  · have := sub_exact hN hf.1 h (by rw [hf.2]; exact hw)
    rw [hf.2] at this
    exact ⟨this.1, .inl this.2⟩
  · have hu := U_pos
    have hsmall : (e + 1074).toNat < 1021 := by
      rcases Nat.lt_or_ge (e + 1074).toNat 1021 with c | c
      · exact c
      · exfalso
        apply hw
        by_cases hc : (e + 1074).toNat ≤ 1074
        · have hU := toU hc
          have hg : 2 ^ (1074 - (e + 1074).toNat) ≤ 2 ^ 53 := Nat.pow_le_pow_right (by omega) (by omega)
          have hp := Nat.two_pow_pos (e + 1074).toNat
          have e1 : key x - n * U = ((if s then -1 else 1) * (m : Int) - n * ((2 ^ (1074 - (e + 1074).toNat) : Nat) : Int)) * ((2 ^ (e + 1074).toNat : Nat) : Int) := by
            rw [hk, hU, Int.natCast_mul, Int.natCast_mul, Int.sub_mul]
            simp only [Int.mul_assoc]
          rw [e1, Int.natAbs_mul, Int.natAbs_natCast]
          generalize hT : ((if s then -1 else 1) * (m : Int) - n * ((2 ^ (1074 - (e + 1074).toNat) : Nat) : Int)) = T at *
          refine rep_mul ?_ (by omega)
          have f1 : 0 ≤ T := by
            rcases Int.lt_or_le T 0 with d | d
            · have := Int.mul_neg_of_neg_of_pos d (show (0 : Int) < ((2 ^ (e + 1074).toNat : Nat) : Int) by omega)
              omega
            · exact d
          have f2 : T < ((2 ^ (1074 - (e + 1074).toNat) : Nat) : Int) := by
            rcases Int.lt_or_le T ((2 ^ (1074 - (e + 1074).toNat) : Nat) : Int) with d | d
            · exact d
            · have := Int.mul_le_mul_of_nonneg_right d (show (0 : Int) ≤ ((2 ^ (e + 1074).toNat : Nat) : Int) by omega)
              rw [← Int.natCast_mul, ← hU] at this
              omega
          omega
        · have hdiv : key x = (if s then -1 else 1) * ((m * 2 ^ ((e + 1074).toNat - uExp) : Nat) : Int) * U := by
            rw [hk, Int.mul_assoc, ← Int.natCast_mul, Nat.mul_assoc, ← pow_U rfl, ← Nat.pow_add, Nat.sub_add_cancel (by unfold uExp; omega)]
          generalize (if s then -1 else 1) * ((m * 2 ^ ((e + 1074).toNat - uExp) : Nat) : Int) = M at *
          have : n = M := by rw [hn, hdiv]; exact Int.mul_ediv_cancel _ (by omega)
          rw [hdiv, this, Int.sub_self]
          exact ⟨by simp, by decide⟩
    have hlt : 2 * (m * 2 ^ (e + 1074).toNat) < U := by
      rw [U_two (k := hExp) (by unfold uExp hExp; rfl)]
      have h3 : m * 2 ^ (e + 1074).toNat < 2 ^ 53 * 2 ^ (e + 1074).toNat := Nat.mul_lt_mul_of_pos_right b2 (Nat.two_pow_pos _)
      rw [← Nat.pow_add] at h3
      have := Nat.lt_of_lt_of_le h3 (Nat.pow_le_pow_right (by omega) (show 53 + (e + 1074).toNat ≤ hExp by unfold hExp; omega))
      exact Nat.mul_lt_mul_of_pos_left this (by omega)
    have hm1 : n = -1 := by
      generalize m * 2 ^ (e + 1074).toNat = X at *
      have g1 : n ≤ 0 := by
        rcases Int.lt_or_le 0 n with d | d
        · have := Int.mul_le_mul_of_nonneg_right (show (1 : Int) ≤ n by omega) (show (0 : Int) ≤ U by omega)
          cases s <;> simp at hk <;> omega
        · exact d
      have g2 : -1 ≤ n := by
        rcases Int.lt_or_le n (-1) with d | d
        · have := Int.mul_le_mul_of_nonneg_right (show n + 1 ≤ (-1 : Int) by omega) (show (0 : Int) ≤ U by omega)
          rw [Int.add_mul, Int.one_mul] at this
          cases s <;> simp at hk <;> omega
        · exact d
      rcases Int.lt_or_le n 0 with d | d
      · omega
      · exfalso
        apply hw
        rw [show n = 0 by omega, Int.zero_mul, Int.sub_zero]
        exact rep_key hr
    subst hm1
    obtain ⟨z, m2, e2, k1, k2, k3, k4, k5⟩ := diff_written hN hf.1 h
    rw [hf.2] at k3 k4 k5
    rw [show key x - -1 * (U : Int) = key x + U by omega] at k3 k4 k5
    have hpos : (U : Int) < 2 * (key x + U) := by
      generalize m * 2 ^ (e + 1074).toNat = X at *
      cases s <;> simp at hk <;> omega
    have hup : key x + U ≤ U := by omega
    have hz := k5 (by omega)
    subst hz
    rw [k2]
    refine ⟨nan_nearest _ _ _, .inr ⟨rfl, by omega, ?_⟩⟩
    obtain ⟨V, hV⟩ : ∃ V, V = (key x + U).natAbs := ⟨_, rfl⟩
    rw [← hV] at k3
    have hVl : 2 ^ hExp ≤ V := by
      have := U_two (k := hExp) (by unfold uExp hExp; rfl)
      generalize 2 ^ hExp = h at *
      omega
    have hVu : V ≤ U := by omega
    have hm0 : m2 ≠ 0 := by
      intro h0
      rw [h0, Nat.zero_mul] at k3
      omega
    have hlog : V.log2 ≤ 2096 := by
      have hV0 : V ≠ 0 := by omega
      have := (Nat.log2_lt (k := topE) hV0).2 (Nat.lt_of_le_of_lt hVu (by unfold U; exact Nat.pow_lt_pow_right (by omega) (by unfold uExp topE; omega)))
      unfold topE at this
      omega
    obtain ⟨K, q1, q2, q3, q4, q5, q6⟩ := round_spec false m2 e2 k1 hm0 V k3 hlog
    rw [q1]
    have := round_above hVl q3 q6
    have h5 := U_two (k := hExp) (by unfold uExp hExp; rfl)
    generalize 2 ^ hExp = h at *
    generalize K * 2 ^ (V.log2 - 52) = Y at *
    simp only [Bool.false_eq_true, if_false]
    omega
end Flo
namespace Flo
open Ieee

theorem isW_mk {x : Nat} {n : Int} (h : isNaN x = false) (hk : key x = n * U) (hn : n.natAbs ≤ 2 ^ 53) : IsW x n :=
  ⟨num_of_whole h hk (Nat.le_trans hn (Nat.pow_le_pow_right (by omega) (by unfold wExp; omega))), hk⟩
theorem isW_add {x y r : Nat} {m n : Int} (hx : IsW x m) (hy : IsW y n) (hb : (m + n).natAbs ≤ 2 ^ 53) (h : Gives (double.add x y) r) : IsW r (m + n) := by
  have e : key x + key y = (m + n) * U := by rw [hx.2, hy.2, Int.add_mul]
  have := add_exact hx.1 hy.1 h (by rw [e, mul_U_abs]; exact rep_whole hb)
  exact isW_mk this.1 (this.2.trans e) hb
theorem isW_sub {x y r : Nat} {m n : Int} (hx : IsW x m) (hy : IsW y n) (hb : (m - n).natAbs ≤ 2 ^ 53) (h : Gives (double.sub x y) r) : IsW r (m - n) := by
  have e : key x - key y = (m - n) * U := by rw [hx.2, hy.2, Int.sub_mul]
  have := sub_exact hx.1 hy.1 h (by rw [e, mul_U_abs]; exact rep_whole hb)
  exact isW_mk this.1 (this.2.trans e) hb
theorem key_abs {x : Nat} {s : Bool} {m : Nat} {e : Int} (h : double.read x = .number s m e) : (key x).natAbs = m * 2 ^ (e + 1074).toNat := by
  unfold key
  rw [h, key_num, signed_natAbs]
theorem key_sign {x : Nat} {s : Bool} {m : Nat} {e : Int} (h : double.read x = .number s m e) : (key x < 0 → s = true) ∧ (0 < key x → s = false) := by
  unfold key
  rw [h, key_num, signed_eq]
  have h0 : (0 : Int) ≤ ((m * 2 ^ (e + 1074).toNat : Nat) : Int) := Int.natCast_nonneg _
  generalize ((m * 2 ^ (e + 1074).toNat : Nat) : Int) = T at *
  cases s
  · simp; omega
  · simp; omega
theorem read_place {x : Nat} {s : Bool} {m : Nat} {e : Int} (h : double.read x = .number s m e) : e = -1074 ∨ 2 ^ 52 ≤ m := by
  rw [read_def] at h
  split at h
  · injection h with _ hm he
    omega
  · split at h
    · injection h with _ hm he
      exact .inr (by omega)
    · split at h <;> cases h
/-- A whole number other than nought has no digits far behind the point. -/
theorem whole_place {x : Nat} {n : Int} (hx : IsW x n) (h0 : n ≠ 0) {s : Bool} {m : Nat} {e : Int} (h : double.read x = .number s m e) : -53 ≤ e ∧ m ≠ 0 := by
  have hk := key_abs h
  rw [hx.2, mul_U_abs] at hk
  have hU := U_pos
  have hn : 1 ≤ n.natAbs := by omega
  have hm := (read_num h).2.1
  have h1 : U ≤ m * 2 ^ (e + 1074).toNat := by rw [← hk]; exact Nat.le_mul_of_pos_left _ hn
  refine ⟨?_, fun c => by rw [c, Nat.zero_mul] at h1; omega⟩
  rcases Int.lt_or_le e (-53) with c | c
  · exfalso
    have h2 : m * 2 ^ (e + 1074).toNat < 2 ^ uExp := by
      have h3 : m * 2 ^ (e + 1074).toNat < 2 ^ 53 * 2 ^ (e + 1074).toNat := Nat.mul_lt_mul_of_pos_right hm (Nat.two_pow_pos _)
      rw [← Nat.pow_add] at h3
      exact Nat.lt_of_lt_of_le h3 (Nat.pow_le_pow_right (by omega) (by unfold uExp; omega))
    have : U = 2 ^ uExp := rfl
    omega
  · exact c
theorem nearest_zero (s : Bool) (e : Int) : isNaN (double.nearest s 0 e) = false ∧ key (double.nearest s 0 e) = 0 := by
  unfold Format.nearest
  rw [if_pos rfl]
  refine ⟨(key_word s 0 (by omega)).1, ?_⟩
  rw [(key_word s 0 (by omega)).2]
  simp [rungVal]
theorem xor_sign {a b : Bool} {m n : Int} (ha : (m < 0 → a = true) ∧ (0 < m → a = false)) (hb : (n < 0 → b = true) ∧ (0 < n → b = false)) : (m * n < 0 → (a ^^ b) = true) ∧ (0 < m * n → (a ^^ b) = false) := by
  rcases Int.lt_trichotomy m 0 with h | h | h
  · rcases Int.lt_trichotomy n 0 with k | k | k
    · have := Int.mul_pos_of_neg_of_neg h k
      rw [ha.1 h, hb.1 k]; exact ⟨fun _ => by omega, fun _ => rfl⟩
    · rw [k]; simp
    · have := Int.mul_neg_of_neg_of_pos h k
      rw [ha.1 h, hb.2 k]; exact ⟨fun _ => rfl, fun _ => by omega⟩
  · rw [h]; simp
  · rcases Int.lt_trichotomy n 0 with k | k | k
    · have := Int.mul_neg_of_pos_of_neg h k
      rw [ha.2 h, hb.1 k]; exact ⟨fun _ => rfl, fun _ => by omega⟩
    · rw [k]; simp
    · have := Int.mul_pos h k
      rw [ha.2 h, hb.2 k]; exact ⟨fun _ => by omega, fun _ => rfl⟩
theorem mul_form {x y r : Nat} {s t : Bool} {m n : Nat} {i j : Int} (hx : double.read x = .number s m i) (hy : double.read y = .number t n j) (h : Gives (double.mul x y) r) : r = double.nearest (s ^^ t) (m * n) (i + j) := by
  unfold Format.mul at h
  rw [hx, hy] at h
  exact h
theorem mul_zero_any {x y r : Nat} (hx : Num x) (hy : Num y) (h0 : key x = 0 ∨ key y = 0) (h : Gives (double.mul x y) r) : isNaN r = false ∧ key r = 0 := by
  obtain ⟨s, m, i, hx⟩ := hx
  obtain ⟨t, n, j, hy⟩ := hy
  rw [mul_form hx hy h]
  have hz : m * n = 0 := by
    rcases h0 with h0 | h0
    · have := key_abs hx
      rw [h0] at this
      rcases Nat.mul_eq_zero.1 this.symm with c | c
      · rw [c, Nat.zero_mul]
      · exact absurd c (Nat.ne_of_gt (Nat.two_pow_pos _))
    · have := key_abs hy
      rw [h0] at this
      rcases Nat.mul_eq_zero.1 this.symm with c | c
      · rw [c, Nat.mul_zero]
      · exact absurd c (Nat.ne_of_gt (Nat.two_pow_pos _))
  rw [hz]
  exact nearest_zero _ _
/-- The product of two numbers, in units of the least place, times such a unit. -/
theorem mul_units {x y : Nat} {s t : Bool} {m n : Nat} {i j : Int} (hx : double.read x = .number s m i) (hy : double.read y = .number t n j) (hp : -1074 ≤ i + j) : m * n * 2 ^ (i + j + 1074).toNat * U = (key x).natAbs * (key y).natAbs := by
  have h1 := read_num hx
  have h2 := read_num hy
  rw [key_abs hx, key_abs hy, show U = 2 ^ uExp from rfl]
  have : 2 ^ (i + 1074).toNat * 2 ^ (j + 1074).toNat = 2 ^ (i + j + 1074).toNat * 2 ^ uExp := by
    rw [← Nat.pow_add, ← Nat.pow_add]
    congr 1
    unfold uExp
    omega
  calc m * n * 2 ^ (i + j + 1074).toNat * 2 ^ uExp = m * n * (2 ^ (i + j + 1074).toNat * 2 ^ uExp) := by rw [Nat.mul_assoc]
    _ = m * n * (2 ^ (i + 1074).toNat * 2 ^ (j + 1074).toNat) := by rw [this]
    _ = m * 2 ^ (i + 1074).toNat * (n * 2 ^ (j + 1074).toNat) := by rw [Nat.mul_assoc, Nat.mul_assoc, Nat.mul_left_comm n]
theorem isW_mul {x y r : Nat} {m n : Int} (hx : IsW x m) (hy : IsW y n) (hb : (m * n).natAbs ≤ 2 ^ 53) (h : Gives (double.mul x y) r) : IsW r (m * n) := by
  by_cases hm : m = 0
  · have := mul_zero_any hx.1 hy.1 (.inl (by rw [hx.2, hm]; simp)) h
    subst hm
    rw [Int.zero_mul]
    exact isW_mk this.1 (by rw [this.2]; simp) (by simp)
  by_cases hn : n = 0
  · have := mul_zero_any hx.1 hy.1 (.inr (by rw [hy.2, hn]; simp)) h
    subst hn
    rw [Int.mul_zero]
    exact isW_mk this.1 (by rw [this.2]; simp) (by simp)
  obtain ⟨s, a, i, rx⟩ := hx.1
  obtain ⟨t, b, j, ry⟩ := hy.1
  have p1 := whole_place hx hm rx
  have p2 := whole_place hy hn ry
  have hu := mul_units rx ry (by omega)
  have hU := U_pos
  have hr := mul_form rx ry h
  have e : (m * n * (U : Int)).natAbs = a * b * 2 ^ (i + j + 1074).toNat := by
    rw [hx.2, hy.2, mul_U_abs, mul_U_abs] at hu
    rw [mul_U_abs, Int.natAbs_mul]
    refine Nat.eq_of_mul_eq_mul_right hU ?_
    rw [hu, ← Nat.mul_assoc, Nat.mul_right_comm m.natAbs U n.natAbs]
  have hs := xor_sign (key_sign rx) (key_sign ry)
  rw [hx.2, hy.2] at hs
  have hU' : (0 : Int) < U := by omega
  have sg : ∀ {P : Int}, (P * U < 0 ↔ P < 0) ∧ (0 < P * U ↔ 0 < P) := fun {P} => by
    have a1 := @mulU_lt P 0
    have a2 := @mulU_lt 0 P
    rw [Int.zero_mul] at a1 a2
    exact ⟨a1, a2⟩
  have e2 : m * ↑U * (n * ↑U) = m * n * U * U := by
    rw [Int.mul_assoc, Int.mul_left_comm (U : Int), ← Int.mul_assoc, ← Int.mul_assoc]
  rw [e2, sg.1, sg.1, sg.2, sg.2] at hs
  have hk : key r = m * n * U := by
    rw [hr]
    exact key_nearest (by omega) e (by rw [mul_U_abs]; exact rep_whole hb) (fun c => hs.1 (sg.1.1 c)) (fun c => hs.2 (sg.2.1 c))
  exact isW_mk (by rw [hr]; exact nan_nearest _ _ _) hk hb
/-- Of whole numbers: the same just if they are. -/
theorem feq_isW {x y : Nat} {m n : Int} (hx : IsW x m) (hy : IsW y n) : feq x y = decide (m = n) := by
  rw [feq_iff hx.1.nan hy.1.nan, hx.2, hy.2]
  exact decide_eq_decide.2 mulU_eq
theorem feq_same {x y : Nat} {m : Int} (hx : IsW x m) (hy : IsW y m) : feq x y = true := by rw [feq_isW hx hy, decide_eq_true rfl]
theorem alikeB_isW {x y : Nat} {m : Int} (hx : IsW x m) (hy : IsW y m) : alikeB x y = true := by unfold alikeB; rw [feq_same hx hy]; rfl
theorem isW_zero : IsW 0 0 := ⟨num_zero, by rw [key_zero]; simp⟩

/-! ### quotients that come out even -/
theorem div_form {x y r : Nat} {s t : Bool} {m n : Nat} {i j : Int} (hx : double.read x = .number s m i) (hy : double.read y = .number t n j) (hn : n ≠ 0) (h : Gives (double.div x y) r) :
    r = double.nearest (s ^^ t) (2 * (m <<< (54 + n.log2 - m.log2) / n) + (m <<< (54 + n.log2 - m.log2) % n != 0).toNat) (i - j - (54 + n.log2 - m.log2 : Nat) - 1) := by
  unfold Format.div at h
  rw [hx, hy] at h
  unfold Datum.quotient at h
  simp only at h
  rw [if_neg hn] at h
  exact h
/-- A quotient that is a whole number is that number. -/
theorem isW_div {x y r : Nat} {T : Int} (hx : Num x) (hy : Num y) (hk : key x = T * key y) (h0 : key y ≠ 0) (hb : T.natAbs ≤ 2 ^ 53) (h : Gives (double.div x y) r) : IsW r T := by
  obtain ⟨s, m, i, rx⟩ := hx
  obtain ⟨t, n, j, ry⟩ := hy
  have ay := key_abs ry
  have ax := key_abs rx
  have hn : n ≠ 0 := by
    intro c
    rw [c, Nat.zero_mul] at ay
    omega
  have hr := div_form rx ry hn h
  have hU := U_pos
  by_cases hT : T = 0
  · subst hT
    rw [Int.zero_mul] at hk
    have hm : m = 0 := by
      rw [hk] at ax
      rcases Nat.mul_eq_zero.1 ax.symm with c | c
      · exact c
      · exact absurd c (Nat.ne_of_gt (Nat.two_pow_pos _))
    subst hm
    rw [Nat.zero_shiftLeft, Nat.zero_div, Nat.zero_mod] at hr
    have := nearest_zero (s ^^ t) (i - j - (54 + n.log2 - Nat.log2 0 : Nat) - 1)
    have e : r = double.nearest (s ^^ t) 0 (i - j - (54 + n.log2 - Nat.log2 0 : Nat) - 1) := hr
    rw [e]
    exact isW_mk this.1 (by rw [this.2]; simp) (by simp)
  have p1 := read_num rx
  have p2 := read_num ry
  have hm : m ≠ 0 := by
    intro c
    rw [c, Nat.zero_mul] at ax
    have : T * key y = 0 := by omega
    rcases Int.mul_eq_zero.1 this with c | c
    · exact hT c
    · exact h0 c
  have hab : m * 2 ^ (i + 1074).toNat = T.natAbs * n * 2 ^ (j + 1074).toNat := by
    rw [← ax, hk, Int.natAbs_mul, ay, Nat.mul_assoc]
  have hTn : T.natAbs ≠ 0 := by omega
  have hTn' : T.natAbs * n ≠ 0 := Nat.mul_ne_zero hTn hn
  have hl : m.log2 + (i + 1074).toNat = (T.natAbs * n).log2 + (j + 1074).toNat := by
    rw [← log2_mul_pow _ _ hm, ← log2_mul_pow _ _ hTn', hab]
  have hl2 : (T.natAbs * n).log2 ≤ 54 + n.log2 := by
    have : (T.natAbs * n).log2 < 55 + n.log2 := by
      rw [Nat.log2_lt hTn']
      have h1 : n < 2 ^ (n.log2 + 1) := Nat.lt_log2_self
      have h2 : T.natAbs * n < 2 ^ 54 * 2 ^ (n.log2 + 1) :=
        Nat.lt_of_le_of_lt (Nat.mul_le_mul_right n (Nat.le_trans hb (Nat.pow_le_pow_right (by omega) (by omega)))) (Nat.mul_lt_mul_of_pos_left h1 (Nat.two_pow_pos _))
      rw [← Nat.pow_add] at h2
      rw [show 55 + n.log2 = 54 + (n.log2 + 1) by omega]
      exact h2
    omega
  have hl3 : n.log2 ≤ (T.natAbs * n).log2 := by
    rw [Nat.le_log2 hTn']
    exact Nat.le_trans (Nat.log2_self_le hn) (Nat.le_mul_of_pos_left _ (by omega))
  have hm53 : m.log2 < 53 := (Nat.log2_lt hm).2 p1.2.1
  obtain ⟨g, hg⟩ : ∃ g, g = 54 + n.log2 - m.log2 := ⟨_, rfl⟩
  rw [← hg] at hr
  have hgj : ((g : Int) + j - i).toNat = g + (j + 1074).toNat - (i + 1074).toNat := by omega
  have hdiv : m <<< g = T.natAbs * 2 ^ ((g : Int) + j - i).toNat * n := by
    rw [Nat.shiftLeft_eq]
    refine Nat.eq_of_mul_eq_mul_right (Nat.two_pow_pos (i + 1074).toNat) ?_
    have e1 : m * 2 ^ g * 2 ^ (i + 1074).toNat = m * 2 ^ (i + 1074).toNat * 2 ^ g := Nat.mul_right_comm _ _ _
    rw [e1, hab]
    have e2 : 2 ^ (j + 1074).toNat * 2 ^ g = 2 ^ ((g : Int) + j - i).toNat * 2 ^ (i + 1074).toNat := by
      rw [← Nat.pow_add, ← Nat.pow_add]
      congr 1
      omega
    rw [Nat.mul_assoc, e2, ← Nat.mul_assoc]
    congr 1
    exact Nat.mul_right_comm _ _ _
  rw [hdiv, Nat.mul_div_cancel _ (by omega), Nat.mul_mod_left] at hr
  have hr : r = double.nearest (s ^^ t) (2 * (T.natAbs * 2 ^ ((g : Int) + j - i).toNat)) (i - j - (g : Int) - 1) := hr
  have hs := xor_sign (key_sign rx) (key_sign ry)
  have sgn : key x * key y = T * (key y * key y) := by rw [hk, Int.mul_assoc]
  have hyy : 0 < key y * key y := by
    rcases Int.lt_trichotomy (key y) 0 with c | c | c
    · exact Int.mul_pos_of_neg_of_neg c c
    · exact absurd c h0
    · exact Int.mul_pos c c
  rw [sgn] at hs
  have hst : (T < 0 → (s ^^ t) = true) ∧ (0 < T → (s ^^ t) = false) :=
    ⟨fun c => hs.1 (Int.mul_neg_of_neg_of_pos c hyy), fun c => hs.2 (Int.mul_pos c hyy)⟩
  have hU' : (0 : Int) < U := by omega
  have sg : ∀ {P : Int}, (P * U < 0 ↔ P < 0) ∧ (0 < P * U ↔ 0 < P) := fun {P} => by
    have a1 := @mulU_lt P 0
    have a2 := @mulU_lt 0 P
    rw [Int.zero_mul] at a1 a2
    exact ⟨a1, a2⟩
  have hlow : -1074 ≤ i - j - (g : Int) - 1 := by omega
  have hk : key r = T * U := by
    rw [hr]
    refine key_nearest hlow ?_ (by rw [mul_U_abs]; exact rep_whole hb) (fun c => hst.1 (sg.1.1 c)) (fun c => hst.2 (sg.2.1 c))
    rw [mul_U_abs]
    have hx : uExp = 1 + (((g : Int) + j - i).toNat + (i - j - (g : Int) - 1 + 1074).toNat) := by unfold uExp; omega
    rw [show U = 2 ^ uExp from rfl, hx]
    generalize ((g : Int) + j - i).toNat = A
    generalize (i - j - (g : Int) - 1 + 1074).toNat = B
    rw [Nat.pow_add, Nat.pow_add, Nat.pow_one, ← Nat.mul_assoc, ← Nat.mul_assoc, ← Nat.mul_assoc, Nat.mul_comm T.natAbs 2]
  exact isW_mk (by rw [hr]; exact nan_nearest _ _ _) hk hb

theorem rootFrom_spec (n : Nat) : ∀ (todo root : Nat), root * root ≤ n → n < (root + 2 ^ todo) * (root + 2 ^ todo) →
    Datum.rootFrom n todo root * Datum.rootFrom n todo root ≤ n ∧ n < (Datum.rootFrom n todo root + 1) * (Datum.rootFrom n todo root + 1)
  | 0, root, h1, h2 => by
    unfold Datum.rootFrom
    exact ⟨h1, by simpa using h2⟩
  | todo + 1, root, h1, h2 => by
    unfold Datum.rootFrom
    simp only
    rw [Nat.shiftLeft_eq, Nat.one_mul]
    by_cases h : (root + 2 ^ todo) * (root + 2 ^ todo) ≤ n
    · rw [if_pos h]
      refine rootFrom_spec n todo _ h ?_
      rw [Nat.pow_succ] at h2
      rw [show root + 2 ^ todo + 2 ^ todo = root + 2 ^ todo * 2 by omega]
      exact h2
    · rw [if_neg h]
      exact rootFrom_spec n todo _ h1 (by omega)
/-- The whole root. -/
def wroot (n : Nat) : Nat := Datum.rootFrom n (n.log2 / 2 + 1) 0
theorem wroot_spec (n : Nat) : wroot n * wroot n ≤ n ∧ n < (wroot n + 1) * (wroot n + 1) := by
  refine rootFrom_spec n _ 0 (by simp) ?_
  rw [Nat.zero_add, ← Nat.pow_add]
  exact Nat.lt_of_lt_of_le Nat.lt_log2_self (Nat.pow_le_pow_right (by omega) (by omega))
theorem sqrt_form {x r : Nat} {m : Nat} {i : Int} (hx : double.read x = .number false m i) (hm : m ≠ 0) (h : Gives (double.sqrt x) r) :
    ∃ (more : Nat) (g : Int), m.log2 + more ≤ 109 ∧ 108 ≤ m.log2 + more ∧ i - more = 2 * g ∧
      r = double.nearest false (2 * wroot (m * 2 ^ more) + (wroot (m * 2 ^ more) * wroot (m * 2 ^ more) != m * 2 ^ more).toNat) (g - 1) := by
  have hl : m.log2 < 53 := (Nat.log2_lt hm).2 (read_num hx).2.1
  unfold Format.sqrt at h
  rw [hx] at h
  unfold Datum.root at h
  simp only at h
  rw [if_neg hm, show double.fractionBits + 2 = 54 from rfl] at h
  simp only [Bool.false_eq_true, if_false] at h
  obtain ⟨a, ha⟩ : ∃ a, a = 2 * 54 - m.log2 := ⟨_, rfl⟩
  rw [← ha] at h
  obtain ⟨b, hb⟩ : ∃ b, b = ((i - (a : Int)) % 2).toNat := ⟨_, rfl⟩
  rw [← hb] at h
  rw [Nat.shiftLeft_eq] at h
  refine ⟨a + b, (i - ((a + b : Nat) : Int)) / 2, by omega, by omega, by omega, ?_⟩
  exact h
theorem log_range {n p : Nat} (h1 : 2 ^ p ≤ n) (h2 : n < 2 ^ (p + 1)) : n.log2 = p := by
  have h0 : n ≠ 0 := by have := Nat.two_pow_pos p; omega
  have a := (Nat.le_log2 h0).2 h1
  have b := (Nat.log2_lt h0).2 h2
  omega
/-- Between the same two powers of four. -/
theorem four_eq {a b A : Nat} (h1 : 2 ^ (2 * a) ≤ A) (h2 : A < 2 ^ (2 * a + 2)) (h3 : 2 ^ (2 * b) ≤ A) (h4 : A < 2 ^ (2 * b + 2)) : a = b := by
  rcases Nat.lt_trichotomy a b with h | h | h
  · have := Nat.pow_le_pow_right (n := 2) (by omega) (show 2 * a + 2 ≤ 2 * b by omega); omega
  · exact h
  · have := Nat.pow_le_pow_right (n := 2) (by omega) (show 2 * b + 2 ≤ 2 * a by omega); omega
/-- The core: in units of the place of the whole root. -/
theorem root_near {n t G V : Nat} (hlo : 2 ^ 108 ≤ n) (hhi : n < 2 ^ 110) (ht : n = t * t ∨ ((t - 2) * (t - 2) < n ∧ 2 ≤ t ∧ n < (t + 2) * (t + 2))) (hV : 2 * V = (2 * wroot n + (wroot n * wroot n != n).toNat) * G) (hG : 0 < G) :
    2 * V < 2 * (t * G) + 4 * G ∧ 2 * (t * G) < 2 * V + 4 * G ∧ 2 ^ 54 * G ≤ V ∧ V < 2 ^ 55 * G := by
  obtain ⟨s1, s2⟩ := wroot_spec n
  obtain ⟨w, hw⟩ : ∃ w, w = wroot n := ⟨_, rfl⟩
  rw [← hw] at s1 s2 hV
  have w1 : 2 ^ 54 ≤ w := by
    rcases Nat.lt_or_ge w (2 ^ 54) with c | c
    · exfalso
      have := Nat.mul_le_mul (show w + 1 ≤ 2 ^ 54 by omega) (show w + 1 ≤ 2 ^ 54 by omega)
      omega
    · exact c
  have w2 : w < 2 ^ 55 := by
    rcases Nat.lt_or_ge w (2 ^ 55) with c | c
    · exact c
    · exfalso
      have := Nat.mul_le_mul c c
      omega
  obtain ⟨M, hM⟩ : ∃ M, M = 2 * w + (w * w != n).toNat := ⟨_, rfl⟩
  rw [← hM] at hV
  have hM1 : 2 * w ≤ M ∧ M ≤ 2 * w + 1 := by rw [hM]; have := Bool.toNat_le (w * w != n); omega
  have hMt : M < 2 * t + 4 ∧ 2 * t < M + 4 := by
    rcases ht with ht | ⟨ht1, ht0, ht2⟩
    · have : w = t := by
        rcases Nat.lt_trichotomy w t with c | c | c
        · have := Nat.mul_le_mul (show w + 1 ≤ t by omega) (show w + 1 ≤ t by omega); omega
        · exact c
        · have := Nat.mul_lt_mul_of_lt_of_le c (Nat.le_of_lt c) (by omega); omega
      omega
    · have a1 : w < t + 2 := by
        rcases Nat.lt_or_ge w (t + 2) with c | c
        · exact c
        · have := Nat.mul_le_mul c c; omega
      have a2 : t - 2 ≤ w := by
        rcases Nat.lt_or_ge w (t - 2) with c | c
        · have := Nat.mul_le_mul (show w + 1 ≤ t - 2 by omega) (show w + 1 ≤ t - 2 by omega); omega
        · exact c
      refine ⟨by omega, ?_⟩
      rcases Nat.lt_or_ge (t - 2) w with c | c
      · omega
      · have e : w = t - 2 := by omega
        have : (w * w != n) = true := by
          rw [bne_iff_ne]
          rw [e]; omega
        rw [this] at hM
        have : (true : Bool).toNat = 1 := rfl
        omega
  have k1 := Nat.mul_le_mul_right G (show M + 1 ≤ 2 * t + 4 by omega)
  have k2 := Nat.mul_le_mul_right G (show 2 * t + 1 ≤ M + 4 by omega)
  have k3 := Nat.mul_le_mul_right G hM1.1
  have k4 := Nat.mul_le_mul_right G hM1.2
  have k5 := Nat.mul_le_mul_right G w1
  have k6 := Nat.mul_le_mul_right G (show w + 1 ≤ 2 ^ 55 by omega)
  rw [Nat.add_mul, Nat.add_mul, Nat.mul_assoc] at k1
  rw [Nat.add_mul, Nat.add_mul, Nat.mul_assoc] at k2
  rw [Nat.mul_assoc] at k3
  rw [Nat.add_mul, Nat.mul_assoc] at k4
  rw [Nat.add_mul] at k6
  omega
/-- What is rounded to a multiple of its last place that lies less than half a place off. -/
theorem nearest_hit {M : Nat} {e : Int} {g : Nat} (he : -1074 ≤ e) (hM : M ≠ 0) {V T : Nat} (hV : V = M * 2 ^ (e + 1074).toNat) (h1 : 2 ^ (52 + g) ≤ V) (h2 : V < 2 ^ (53 + g)) (hg : g ≤ 2000) (hd : 2 ^ g ∣ T) (h3 : 2 * V < 2 * T + 2 ^ g) (h4 : 2 * T < 2 * V + 2 ^ g) :
    key (double.nearest false M e) = (T : Int) := by
  have hl : V.log2 = 52 + g := log_range h1 (by rw [show 52 + g + 1 = 53 + g by omega]; exact h2)
  obtain ⟨K, k1, -, -, k4, k5, -⟩ := round_spec false M e he hM V hV (by omega)
  rw [hl, show 52 + g - 52 = g by omega] at k1 k4 k5
  obtain ⟨c, rfl⟩ := hd
  have : K = c := by
    rcases Nat.lt_trichotomy K c with h | h | h
    · exfalso
      have := Nat.mul_le_mul_left (2 ^ g) h
      rw [Nat.mul_comm (2 ^ g) K.succ, Nat.succ_mul] at this
      omega
    · exact h
    · exfalso
      have := Nat.mul_le_mul_left (2 ^ g) h
      rw [Nat.mul_succ, Nat.mul_comm (2 ^ g) K] at this
      omega
  rw [k1, this, Nat.mul_comm]
  simp
theorem pow_split {a b c : Nat} (h : a = b + c) : 2 ^ a = 2 ^ b * 2 ^ c := by rw [h, Nat.pow_add]
/-- A whole number's square, rounded, in units of the least place. -/
theorem sq_round {N : Nat} (h1 : 1 ≤ N) (hN : N < 2 ^ 50) {x p : Nat} (hx : IsW x N) (hp : Gives (double.mul x x) p) :
    ∃ X L2 : Nat, key p = (X : Int) ∧ 2 ^ L2 ≤ N * N ∧ N * N < 2 ^ (L2 + 1) ∧ 2 * X ≤ 2 * (N * N * U) + 2 ^ (L2 + 1022) ∧ 2 * (N * N * U) ≤ 2 * X + 2 ^ (L2 + 1022) ∧ 2 ^ (L2 + 1074) ≤ X := by
  obtain ⟨s, m, e, hr⟩ := hx.1
  have hpl := whole_place hx (by omega) hr
  have hu := mul_units hr hr (by omega)
  have hm : m * m ≠ 0 := Nat.mul_ne_zero hpl.2 hpl.2
  have hU := U_pos
  have hV : m * m * 2 ^ (e + e + 1074).toNat = N * N * U := by
    refine Nat.eq_of_mul_eq_mul_right hU ?_
    rw [hu, hx.2, mul_U_abs, Int.natAbs_natCast, ← Nat.mul_assoc, Nat.mul_right_comm N U]
  have hNN : N * N ≠ 0 := Nat.mul_ne_zero (by omega) (by omega)
  obtain ⟨L2, hL2⟩ : ∃ L2, L2 = (N * N).log2 := ⟨_, rfl⟩
  have l1 : 2 ^ L2 ≤ N * N := by rw [hL2]; exact Nat.log2_self_le hNN
  have l2 : N * N < 2 ^ (L2 + 1) := by rw [hL2]; exact Nat.lt_log2_self
  have l3 : L2 < 100 := by
    rw [hL2, Nat.log2_lt hNN]
    have := Nat.mul_lt_mul_of_lt_of_le hN (Nat.le_of_lt hN) (by omega)
    omega
  obtain ⟨V, hVd⟩ : ∃ V, V = N * N * U := ⟨_, rfl⟩
  have hlog : V.log2 = L2 + 1074 := by
    rw [hVd, hL2, show U = 2 ^ uExp from rfl, log2_mul_pow _ _ hNN]
    rfl
  obtain ⟨K, k1, k2, k3, k4, k5, k6⟩ := round_spec false (m * m) (e + e) (by omega) hm V (by rw [hVd, hV]) (by omega)
  have ke : key p = ((K * 2 ^ (V.log2 - 52) : Nat) : Int) := by
    rw [mul_form hr hr hp, Bool.xor_self, k1]
    simp
  have hup : 2 ^ (L2 + 1074) ≤ V := by
    rw [← hlog]; exact Nat.log2_self_le (by rw [hVd]; exact Nat.mul_ne_zero hNN (by omega))
  have ab := round_above hup k3 k6
  rw [hlog, show L2 + 1074 - 52 = L2 + 1022 by omega] at k4 k5 ke ab
  refine ⟨K * 2 ^ (L2 + 1022), L2, ke, l1, l2, ?_, ?_, ab⟩
  · rw [← hVd]; exact k5
  · rw [← hVd]; exact k4
theorem sqrt_sq {N : Nat} (h1 : 1 ≤ N) (hN : N < 2 ^ 50) {x p q r : Nat} (hx : IsW x N) (hp : Gives (double.mul x x) p) (hq : Num q) (hk : key q = key p) (hr : Gives (double.sqrt q) r) : IsW r N := by
  obtain ⟨X, L2, kp, l1, l2, x1, x2, x3⟩ := sq_round h1 hN hx hp
  obtain ⟨s, m, i, rq⟩ := hq
  have hU := U_pos
  have hXpos : 0 < X := Nat.lt_of_lt_of_le (Nat.two_pow_pos _) x3
  have hs : s = false := (key_sign rq).2 (by rw [hk, kp]; omega)
  subst hs
  have hX : X = m * 2 ^ (i + 1074).toNat := by
    have := key_abs rq
    rw [hk, kp, Int.natAbs_natCast] at this
    exact this
  have hm : m ≠ 0 := by
    intro c
    rw [c, Nat.zero_mul] at hX
    omega
  have hm53 := (read_num rq).2.1
  obtain ⟨more, g, m1, m2, hg, hform⟩ := sqrt_form rq hm hr
  -- the log of N
  obtain ⟨l, hl⟩ : ∃ l, l = N.log2 := ⟨_, rfl⟩
  have n1 : 2 ^ l ≤ N := by rw [hl]; exact Nat.log2_self_le (by omega)
  have n2 : N < 2 ^ (l + 1) := by rw [hl]; exact Nat.lt_log2_self
  have l50 : l < 50 := by rw [hl, Nat.log2_lt (by omega)]; exact hN
  have L2r : L2 = 2 * l ∨ L2 = 2 * l + 1 := by
    have a1 := Nat.mul_le_mul n1 n1
    have a2 := Nat.mul_lt_mul_of_lt_of_le n2 (Nat.le_of_lt n2) (Nat.two_pow_pos _)
    rw [← Nat.pow_add] at a1 a2
    rcases Nat.lt_or_ge L2 (2 * l) with c | c
    · have := Nat.pow_le_pow_right (n := 2) (by omega) (show L2 + 1 ≤ l + l by omega); omega
    · rcases Nat.lt_or_ge (2 * l + 1) L2 with d | d
      · have := Nat.pow_le_pow_right (n := 2) (by omega) (show l + 1 + (l + 1) ≤ L2 by omega); omega
      · omega
  -- the place is not far behind the point
  have hi : -53 ≤ i := by
    rcases Int.lt_or_le i (-53) with c | c
    · exfalso
      have a1 : X < 2 ^ 53 * 2 ^ (i + 1074).toNat := by rw [hX]; exact Nat.mul_lt_mul_of_pos_right hm53 (Nat.two_pow_pos _)
      rw [← Nat.pow_add] at a1
      have a2 := Nat.pow_le_pow_right (n := 2) (by omega) (show 53 + (i + 1074).toNat ≤ L2 + 1074 by omega)
      omega
    · exact c
  obtain ⟨n, hn⟩ : ∃ n, n = m * 2 ^ more := ⟨_, rfl⟩
  rw [← hn] at hform
  have hnl : n.log2 = m.log2 + more := by rw [hn]; exact log2_mul_pow m more hm
  have hn0 : n ≠ 0 := by rw [hn]; exact Nat.mul_ne_zero hm (Nat.ne_of_gt (Nat.two_pow_pos _))
  have hnlo : 2 ^ 108 ≤ n := Nat.le_trans (Nat.pow_le_pow_right (by omega) (by omega)) (Nat.log2_self_le hn0)
  have hnhi : n < 2 ^ 110 := Nat.lt_of_lt_of_le (Nat.lt_log2_self) (Nat.pow_le_pow_right (by omega) (by omega))
  obtain ⟨G, hG⟩ : ∃ G, G = 2 ^ (g + 1074).toNat := ⟨_, rfl⟩
  have hGp : 0 < G := by rw [hG]; exact Nat.two_pow_pos _
  have hXU : X * U = n * (G * G) := by
    rw [hX, hn, hG, Nat.mul_assoc, Nat.mul_assoc, show U = 2 ^ uExp from rfl, ← Nat.pow_add, ← Nat.pow_add, ← Nat.pow_add]
    congr 2
    unfold uExp
    omega
  -- the place of the root
  have hXhi : X * U < 2 ^ (2 * (l + 1074) + 2) := by
    rcases Nat.lt_or_ge X (2 ^ (2 * l + 2 + 1074)) with c | c
    · rw [show 2 * (l + 1074) + 2 = (2 * l + 2 + 1074) + uExp by unfold uExp; omega, Nat.pow_add]
      exact Nat.mul_lt_mul_of_pos_right c hU
    · exfalso
      have b1 : N * N + 2 ^ (l + 1) ≤ 2 ^ (2 * l + 2) := by
        have c1 := Nat.mul_le_mul (show N ≤ 2 ^ (l + 1) - 1 by omega) (show N ≤ 2 ^ (l + 1) by omega)
        rw [Nat.sub_mul, Nat.one_mul, ← Nat.pow_add, show l + 1 + (l + 1) = 2 * l + 2 by omega] at c1
        have := Nat.pow_le_pow_right (n := 2) (by omega) (show l + 1 ≤ 2 * l + 2 by omega)
        omega
      have b2 := Nat.mul_le_mul_right U b1
      rw [Nat.add_mul, show 2 ^ (2 * l + 2) * U = 2 ^ (2 * l + 2 + 1074) from (Nat.pow_add 2 (2 * l + 2) uExp).symm, show 2 ^ (l + 1) * U = 2 ^ (l + 1 + 1074) from (Nat.pow_add 2 (l + 1) uExp).symm] at b2
      have b3 := Nat.pow_le_pow_right (n := 2) (by omega) (show L2 + 1022 ≤ l + 1 + 1074 - 1 + 1 by omega)
      have b4 : 2 ^ (l + 1 + 1074) = 2 * 2 ^ (l + 1074) := by rw [show l + 1 + 1074 = (l + 1074) + 1 by omega, Nat.pow_succ]; omega
      have b5 := Nat.two_pow_pos (l + 1074)
      have b6 := Nat.pow_le_pow_right (n := 2) (by omega) (show L2 + 1022 ≤ l + 1074 by omega)
      omega
  have hXlo : 2 ^ (2 * (l + 1074)) ≤ X * U := by
    have := Nat.mul_le_mul_right U (Nat.le_trans (Nat.pow_le_pow_right (n := 2) (by omega) (show 2 * l + 1074 ≤ L2 + 1074 by omega)) x3)
    rw [show 2 ^ (2 * l + 1074) * U = 2 ^ (2 * l + 1074 + uExp) from (Nat.pow_add _ _ _).symm] at this
    rw [show 2 * (l + 1074) = 2 * l + 1074 + uExp by unfold uExp; omega]
    exact this
  have hgg : l + 1074 = (g + 1074).toNat + 54 := by
    refine four_eq (A := X * U) hXlo hXhi ?_ ?_
    · rw [hXU, hG, ← Nat.pow_add, show 2 * ((g + 1074).toNat + 54) = 108 + ((g + 1074).toNat + (g + 1074).toNat) by omega, Nat.pow_add]
      exact Nat.mul_le_mul_right _ hnlo
    · rw [hXU, hG, ← Nat.pow_add, show 2 * ((g + 1074).toNat + 54) + 2 = 110 + ((g + 1074).toNat + (g + 1074).toNat) by omega, Nat.pow_add 2 110]
      exact Nat.mul_lt_mul_of_pos_right hnhi (Nat.two_pow_pos _)
  -- in units of the root's place
  obtain ⟨t, ht⟩ : ∃ t, t = N * 2 ^ (54 - l) := ⟨_, rfl⟩
  have hT : t * G = N * U := by
    have hu : uExp = 54 - l + (g + 1074).toNat := by unfold uExp; omega
    rw [ht, hG, Nat.mul_assoc, ← Nat.pow_add, show U = 2 ^ uExp from rfl, hu]
  have htlo : 2 ^ 54 ≤ t := by
    rw [ht, pow_split (show 54 = l + (54 - l) by omega)]
    exact Nat.mul_le_mul_right _ n1
  have hNN : N * N * U * U = t * t * (G * G) := by
    have : N * N * U * U = (N * U) * (N * U) := by rw [Nat.mul_assoc (N * N), Nat.mul_mul_mul_comm]
    rw [this, ← hT, Nat.mul_mul_mul_comm]
  have hE : ∀ d, L2 = 2 * l + d → 2 * n ≤ 2 * (t * t) + 2 ^ (56 + d) ∧ 2 * (t * t) ≤ 2 * n + 2 ^ (56 + d) := by
    intro d hd
    have e1 : 2 ^ (L2 + 1022) * U = 2 ^ (56 + d) * (G * G) := by
      have hu : L2 + 1022 + uExp = 56 + d + ((g + 1074).toNat + (g + 1074).toNat) := by unfold uExp; omega
      rw [hG, show U = 2 ^ uExp from rfl, ← Nat.pow_add, ← Nat.pow_add, ← Nat.pow_add, hu]
    have y1 := Nat.mul_le_mul_right U x1
    have y2 := Nat.mul_le_mul_right U x2
    rw [Nat.add_mul, Nat.mul_assoc 2, Nat.mul_assoc 2, hXU, hNN, e1] at y1 y2
    have y3 : 2 * n * (G * G) ≤ (2 * (t * t) + 2 ^ (56 + d)) * (G * G) := by rw [Nat.add_mul, Nat.mul_assoc 2 n, Nat.mul_assoc 2 (t * t)]; exact y1
    have y4 : 2 * (t * t) * (G * G) ≤ (2 * n + 2 ^ (56 + d)) * (G * G) := by rw [Nat.add_mul, Nat.mul_assoc 2 n, Nat.mul_assoc 2 (t * t)]; exact y2
    have hGG : 0 < G * G := Nat.mul_pos hGp hGp
    exact ⟨Nat.le_of_mul_le_mul_right y3 hGG, Nat.le_of_mul_le_mul_right y4 hGG⟩
  have hcase : n = t * t ∨ ((t - 2) * (t - 2) < n ∧ 2 ≤ t ∧ n < (t + 2) * (t + 2)) := by
    right
    obtain ⟨y, rfl⟩ : ∃ y, t = y + 2 := ⟨t - 2, by omega⟩
    have z1 : (y + 2) * (y + 2) = y * y + 4 * y + 4 := by rw [Nat.add_mul, Nat.mul_add]; omega
    have z2 : (y + 2 + 2) * (y + 2 + 2) = (y + 2) * (y + 2) + 4 * (y + 2) + 4 := by rw [Nat.add_mul (y + 2), Nat.mul_add (y + 2)]; omega
    rcases L2r with c | c
    · have e := hE 0 (by omega)
      refine ⟨?_, by omega, by rw [z2]; omega⟩
      rw [show y + 2 - 2 = y by omega]
      omega
    · have e := hE 1 (by omega)
      have ty : 2 ^ 109 ≤ (y + 2) * (y + 2) := by
        rw [ht, Nat.mul_mul_mul_comm, ← Nat.pow_add, pow_split (show 109 = L2 + (54 - l + (54 - l)) by omega)]
        exact Nat.mul_le_mul_right _ l1
      refine ⟨?_, by omega, by rw [z2]; omega⟩
      rw [show y + 2 - 2 = y by omega]
      rcases Nat.lt_or_ge (y + 2) (5 * 2 ^ 52) with d | d
      · exfalso
        have := Nat.mul_le_mul (Nat.le_of_lt d) (Nat.le_of_lt d)
        omega
      · omega
  obtain ⟨V, hV⟩ : ∃ V, V = (2 * wroot n + (wroot n * wroot n != n).toNat) * 2 ^ (g - 1 + 1074).toNat := ⟨_, rfl⟩
  have hV2 : 2 * V = (2 * wroot n + (wroot n * wroot n != n).toNat) * G := by
    have hp : 2 * 2 ^ (g - 1 + 1074).toNat = 2 ^ (g + 1074).toNat := by rw [show (g + 1074).toNat = (g - 1 + 1074).toNat + 1 by omega, Nat.pow_succ, Nat.mul_comm]
    rw [hV, hG, Nat.mul_left_comm, hp]
  obtain ⟨v1, v2, v3, v4⟩ := root_near hnlo hnhi hcase hV2 hGp
  rw [hT] at v1 v2
  have hG4 : 4 * G = 2 ^ ((g + 1074).toNat + 2) := by rw [hG, Nat.pow_add]; omega
  have hM0 : 2 * wroot n + (wroot n * wroot n != n).toNat ≠ 0 := by
    intro c
    rw [c, Nat.zero_mul] at hV2
    have := Nat.mul_pos (Nat.two_pow_pos 54) hGp
    omega
  have kr : key r = ((N * U : Nat) : Int) := by
    rw [hform]
    refine nearest_hit (g := (g + 1074).toNat + 2) (by omega) hM0 hV ?_ ?_ (by omega) ?_ (by rw [← hG4]; exact v1) (by rw [← hG4]; exact v2)
    · rw [show 52 + ((g + 1074).toNat + 2) = 54 + (g + 1074).toNat by omega, Nat.pow_add, ← hG]; exact v3
    · rw [show 53 + ((g + 1074).toNat + 2) = 55 + (g + 1074).toNat by omega, Nat.pow_add, ← hG]; exact v4
    · rw [show U = 2 ^ uExp from rfl]
      exact Nat.dvd_trans (Nat.pow_dvd_pow 2 (by unfold uExp; omega)) (Nat.dvd_mul_left _ _)
  exact isW_mk (by rw [hform]; exact nan_nearest _ _ _) (by rw [kr]; simp) (by omega)
def kTop : Nat := 2045
theorem finB_num {x : Nat} (h : Num x) : finB x = true := by
  rw [finB_iff h.nan]
  obtain ⟨s, m, e, h⟩ := h
  obtain ⟨h1, h2, h3⟩ := read_num h
  have ka := key_abs h
  have km : key maxF = (((2 ^ 53 - 1) * 2 ^ kTop : Nat) : Int) := by
    unfold key
    rw [read_maxF, key_num, signed_eq, if_neg (by decide), Int.one_mul, show ((971 : Int) + 1074).toNat = kTop from rfl]
  have h4 : m * 2 ^ (e + 1074).toNat ≤ (2 ^ 53 - 1) * 2 ^ kTop := Nat.mul_le_mul (by omega) (Nat.pow_le_pow_right (by omega) h3)
  rw [km]
  generalize (2 ^ 53 - 1) * 2 ^ kTop = M at *
  refine decide_eq_true ?_
  omega
/-- The other sign: the opposite. -/
theorem nearest_opp (m : Nat) (e : Int) : key (double.nearest true m e) = - key (double.nearest false m e) := by
  unfold Format.nearest
  simp only
  split
  · rw [(key_word true 0 (by omega)).2, (key_word false 0 (by omega)).2]; simp
  · rw [infRung_d]
    have hc : ∀ n q, Toward.even.cut true n q = Toward.even.cut false n q := fun _ _ => rfl
    rw [hc]
    generalize hr : min _ (2047 * 2 ^ 52) = r
    have h1 : r ≤ 2047 * 2 ^ 52 := by rw [← hr]; exact Nat.min_le_right _ _
    rcases Nat.lt_or_eq_of_le h1 with h2 | h2
    · rw [(key_word true r h2).2, (key_word false r h2).2]; simp
    · rw [h2, (key_word_inf true).2, (key_word_inf false).2]; simp
theorem nearest_sign (s : Bool) (m : Nat) (e : Int) : key (double.nearest s m e) = (if s then -1 else 1) * key (double.nearest false m e) := by
  cases s
  · simp
  · rw [nearest_opp]; simp
theorem num_key {x : Nat} (h : Num x) : -inf < key x ∧ key x < inf := by
  have hn := h.nan
  obtain ⟨s, m, e, h⟩ := h
  have := dkey_bd (s := s) (m := m) (e := e) (by have := read_ok x hn; rwa [h] at this)
  unfold key
  rw [h]
  exact this
theorem num_of {x : Nat} (h : isNaN x = false) {K : Int} (hk : -inf < K ∧ K < inf) {a : Int} (ha : a = 1 ∨ a = 0 ∨ a = -1) (he : key x = a * K) : Num x := by
  have hp := inf_pos
  refine num_of_key h ?_ ?_
  · rw [he]; rcases ha with rfl | rfl | rfl <;> omega
  · rw [he]; rcases ha with rfl | rfl | rfl <;> omega

/-- The ratio of two neighbouring places, nearly. -/
def PP : Nat := 2 ^ 52
def SS : Nat := 2 ^ 52 + 1
/-- a and b are in a ratio within (SS / PP)^n of 1. -/
def Near (n a b : Nat) : Prop := a * PP ^ n ≤ b * SS ^ n ∧ b * PP ^ n ≤ a * SS ^ n
theorem Near.symm {n a b : Nat} (h : Near n a b) : Near n b a := ⟨h.2, h.1⟩
theorem Near.refl (n a : Nat) : Near n a a := by
  have : PP ^ n ≤ SS ^ n := Nat.pow_le_pow_left (by unfold PP SS; omega) n
  exact ⟨Nat.mul_le_mul_left _ this, Nat.mul_le_mul_left _ this⟩
theorem PP_pos (n : Nat) : 0 < PP ^ n := Nat.pow_pos (by unfold PP; omega)
theorem SS_pos (n : Nat) : 0 < SS ^ n := Nat.pow_pos (by unfold SS; omega)
theorem Near.trans {m n a b c : Nat} (h : Near m a b) (k : Near n b c) : Near (m + n) a c := by
  unfold Near at *
  rw [Nat.pow_add, Nat.pow_add]
  constructor
  · calc a * (PP ^ m * PP ^ n) = a * PP ^ m * PP ^ n := by rw [Nat.mul_assoc]
      _ ≤ b * SS ^ m * PP ^ n := Nat.mul_le_mul_right _ h.1
      _ = b * PP ^ n * SS ^ m := by rw [Nat.mul_right_comm]
      _ ≤ c * SS ^ n * SS ^ m := Nat.mul_le_mul_right _ k.1
      _ = c * (SS ^ m * SS ^ n) := by rw [Nat.mul_assoc, Nat.mul_comm (SS ^ n)]
  · calc c * (PP ^ m * PP ^ n) = c * PP ^ n * PP ^ m := by rw [Nat.mul_assoc, Nat.mul_comm (PP ^ n)]
      _ ≤ b * SS ^ n * PP ^ m := Nat.mul_le_mul_right _ k.2
      _ = b * PP ^ m * SS ^ n := by rw [Nat.mul_right_comm]
      _ ≤ a * SS ^ m * SS ^ n := Nat.mul_le_mul_right _ h.2
      _ = a * (SS ^ m * SS ^ n) := by rw [Nat.mul_assoc]
theorem Near.mul {m n a b c d : Nat} (h : Near m a b) (k : Near n c d) : Near (m + n) (a * c) (b * d) := by
  unfold Near at *
  rw [Nat.pow_add, Nat.pow_add]
  constructor
  · have := Nat.mul_le_mul h.1 k.1
    rw [Nat.mul_mul_mul_comm, Nat.mul_mul_mul_comm b] at this
    exact this
  · have := Nat.mul_le_mul h.2 k.2
    rw [Nat.mul_mul_mul_comm, Nat.mul_mul_mul_comm a] at this
    exact this
theorem Near.add {n a b c d : Nat} (h : Near n a b) (k : Near n c d) : Near n (a + c) (b + d) := by
  unfold Near at *
  rw [Nat.add_mul, Nat.add_mul, Nat.add_mul, Nat.add_mul]
  exact ⟨Nat.add_le_add h.1 k.1, Nat.add_le_add h.2 k.2⟩
theorem Near.cancel {n a b k : Nat} (hk : 0 < k) (h : Near n (a * k) (b * k)) : Near n a b := by
  unfold Near at *
  rw [Nat.mul_right_comm, Nat.mul_right_comm b, Nat.mul_right_comm b k (PP ^ n), Nat.mul_right_comm a k (SS ^ n)] at h
  exact ⟨Nat.le_of_mul_le_mul_right h.1 hk, Nat.le_of_mul_le_mul_right h.2 hk⟩
theorem Near.scale {n a b : Nat} (k : Nat) (h : Near n a b) : Near n (a * k) (b * k) := by
  unfold Near at *
  rw [Nat.mul_right_comm, Nat.mul_right_comm b, Nat.mul_right_comm b k (PP ^ n), Nat.mul_right_comm a k (SS ^ n)]
  exact ⟨Nat.mul_le_mul_right _ h.1, Nat.mul_le_mul_right _ h.2⟩
theorem Near.mono {m n a b : Nat} (h : Near m a b) (hmn : m ≤ n) : Near n a b := by
  obtain ⟨k, rfl⟩ := Nat.le.dest hmn
  exact h.trans (Near.refl k b)
/-- A rounding's bound. -/
theorem Near.of_err {a b : Nat} (h1 : 2 ^ 53 * a ≤ 2 ^ 53 * b + b) (h2 : 2 ^ 53 * b ≤ 2 ^ 53 * a + b) : Near 1 a b := by
  unfold Near PP SS
  rw [Nat.pow_one, Nat.pow_one]
  omega
theorem Near.two {a b : Nat} (h : Near 12 a b) : a ≤ 2 * b ∧ b ≤ 2 * a := by
  unfold Near at h
  have hs : SS ^ 12 ≤ 2 * PP ^ 12 := by unfold SS PP; decide
  have hp := PP_pos 12
  generalize SS ^ 12 = s at *
  generalize PP ^ 12 = p at *
  constructor
  · have := Nat.le_trans h.1 (Nat.mul_le_mul_left b hs)
    rw [Nat.mul_left_comm, ← Nat.mul_assoc] at this
    exact Nat.le_of_mul_le_mul_right this hp
  · have := Nat.le_trans h.2 (Nat.mul_le_mul_left a hs)
    rw [Nat.mul_left_comm, ← Nat.mul_assoc] at this
    exact Nat.le_of_mul_le_mul_right this hp
/-- Eleven roundings: off by fewer than twelve of 2^52. -/
theorem Near.eleven {a b : Nat} (h : Near 11 a b) : 2 ^ 52 * a ≤ 2 ^ 52 * b + 12 * b ∧ 2 ^ 52 * b ≤ 2 ^ 52 * a + 12 * b := by
  unfold Near at h
  have hs : SS ^ 11 * 2 ^ 52 ≤ PP ^ 11 * (2 ^ 52 + 12) := by unfold SS PP; decide
  have hs2 : PP ^ 11 * 2 ^ 52 ≥ SS ^ 11 * (2 ^ 52 - 12) := by unfold SS PP; decide
  have hp := PP_pos 11
  have hq := SS_pos 11
  generalize SS ^ 11 = s at *
  generalize PP ^ 11 = p at *
  constructor
  · have k1 := Nat.mul_le_mul_right (2 ^ 52) h.1
    have k2 := Nat.mul_le_mul_left b hs
    rw [Nat.mul_assoc b s] at k1
    have k3 : a * 2 ^ 52 * p ≤ b * (2 ^ 52 + 12) * p := by
      rw [Nat.mul_right_comm, Nat.mul_assoc b, Nat.mul_comm (2 ^ 52 + 12)]
      exact Nat.le_trans k1 k2
    have := Nat.le_of_mul_le_mul_right k3 hp
    omega
  · have k1 := Nat.mul_le_mul_right (2 ^ 52) h.2
    have k2 := Nat.mul_le_mul_left b hs2
    rw [Nat.mul_assoc b p] at k1
    have k3 : b * (2 ^ 52 - 12) * s ≤ a * 2 ^ 52 * s := by
      rw [Nat.mul_right_comm a, Nat.mul_assoc b, Nat.mul_comm (2 ^ 52 - 12)]
      exact Nat.le_trans k2 k1
    have := Nat.le_of_mul_le_mul_right k3 hq
    omega
/-- A number that is rounded is near itself. -/
theorem near_round (s : Bool) (m : Nat) (e : Int) (he : -1074 ≤ e) (V : Nat) (hV : V = m * 2 ^ (e + 1074).toNat) (hb : V.log2 ≤ 2096) : Near 1 (key (double.nearest s m e)).natAbs V := by
  by_cases hm : m = 0
  · subst hm
    rw [Nat.zero_mul] at hV
    subst hV
    have := nearest_zero s e
    rw [this.2]
    exact Near.refl _ _
  · obtain ⟨K, k1, k2, k3, k4, k5, k6⟩ := round_spec s m e he hm V hV hb
    have ea : (key (double.nearest s m e)).natAbs = K * 2 ^ (V.log2 - 52) := by
      rw [k1]
      cases s
      · rw [if_neg (by decide), Int.one_mul, Int.natAbs_natCast]
      · rw [if_pos rfl, Int.neg_mul, Int.one_mul, Int.natAbs_neg, Int.natAbs_natCast]
    rw [ea]
    by_cases hl : V.log2 ≤ 52
    · rw [k6 hl, show V.log2 - 52 = 0 by omega, Nat.pow_zero, Nat.mul_one]
      exact Near.refl _ _
    · have hVn : V ≠ 0 := by rw [hV]; exact Nat.mul_ne_zero hm (Nat.ne_of_gt (Nat.two_pow_pos _))
      have hq : 2 ^ 52 * 2 ^ (V.log2 - 52) ≤ V := by
        rw [← Nat.pow_add, show 52 + (V.log2 - 52) = V.log2 by omega]
        exact Nat.log2_self_le hVn
      generalize K * 2 ^ (V.log2 - 52) = R at *
      generalize 2 ^ (V.log2 - 52) = Q at *
      exact Near.of_err (by omega) (by omega)

theorem NN.key {x : Nat} (h : NN x) : 0 ≤ key x := by
  unfold Flo.key
  rcases h with ⟨m, e, h⟩ | h
  · rw [h, key_num, signed_eq, if_neg (by decide), Int.one_mul]
    exact Int.natCast_nonneg _
  · rw [h, key_inf, if_neg (by decide)]
    exact Int.le_of_lt inf_pos
theorem key_near_sign (s : Bool) (m : Nat) (e : Int) : key (double.nearest s m e) = (if s then -1 else 1) * ((key (double.nearest s m e)).natAbs : Int) := by
  have h := (nn_nearest m e).key
  rw [nearest_sign s m e]
  cases s
  · simp; omega
  · simp; omega
theorem num_round (s : Bool) (m : Nat) (e : Int) (he : -1074 ≤ e) (V : Nat) (hV : V = m * 2 ^ (e + 1074).toNat) (hb : V.log2 ≤ 2096) : Num (double.nearest s m e) := by
  have hn := near_round s m e he V hV hb
  have h1 := (hn.mono (show 1 ≤ 12 by omega)).two.1
  have h2 : V < 2 ^ (V.log2 + 1) := Nat.lt_log2_self
  have h3 : 2 * V < 2 ^ (V.log2 + 2) := by rw [Nat.pow_succ]; omega
  have h4 : 2 ^ (V.log2 + 2) ≤ 2 ^ bigE := Nat.pow_le_pow_right (by omega) (by unfold bigE; omega)
  have hi : inf = ((2 ^ bigE : Nat) : Int) := rfl
  generalize 2 ^ bigE = B at *
  refine num_of_key (nan_nearest _ _ _) ?_ ?_
  · rw [hi]; omega
  · rw [hi]; omega
def wB : Nat := 100
def WW : Nat := 2 ^ wB
/-- Neither great nor small. -/
def Mid (x : Nat) : Prop := Num x ∧ (key x ≠ 0 → U ≤ (key x).natAbs * WW) ∧ (key x).natAbs ≤ U * WW
theorem Mid.place {x : Nat} (h : Mid x) (h0 : key x ≠ 0) {s : Bool} {m : Nat} {i : Int} (hr : double.read x = .number s m i) : -153 ≤ i ∧ i ≤ 100 ∧ m ≠ 0 := by
  have ha := key_abs hr
  have h1 := h.2.1 h0
  have h2 := h.2.2
  have hm := (read_num hr).2.1
  have hlo := (read_num hr).1
  have hm0 : m ≠ 0 := by
    intro c
    rw [c, Nat.zero_mul] at ha
    omega
  rw [ha] at h1 h2
  refine ⟨?_, ?_, hm0⟩
  · rcases Int.lt_or_le i (-153) with c | c
    · exfalso
      have h3 : m * 2 ^ (i + 1074).toNat * WW < 2 ^ 53 * 2 ^ (i + 1074).toNat * WW := Nat.mul_lt_mul_of_pos_right (Nat.mul_lt_mul_of_pos_right hm (Nat.two_pow_pos _)) (Nat.two_pow_pos _)
      rw [show WW = 2 ^ wB from rfl, ← Nat.pow_add, ← Nat.pow_add] at h3
      have h4 : 2 ^ (53 + (i + 1074).toNat + wB) ≤ 2 ^ uExp := Nat.pow_le_pow_right (by omega) (by unfold wB uExp; omega)
      rw [show 2 ^ uExp = U from rfl] at h4
      rw [show WW = 2 ^ wB from rfl] at h1
      omega
    · exact c
  · rcases Int.lt_or_le 100 i with c | c
    · exfalso
      have h3 : 2 ^ (i + 1074).toNat ≤ m * 2 ^ (i + 1074).toNat := Nat.le_mul_of_pos_left _ (by omega)
      have h4 : 2 ^ (uExp + wB) < 2 ^ (i + 1074).toNat := Nat.pow_lt_pow_right (by omega) (by unfold wB uExp; omega)
      rw [Nat.pow_add, show 2 ^ uExp = U from rfl, show 2 ^ wB = WW from rfl] at h4
      omega
    · exact c
theorem mid_log {V k : Nat} (h : V ≤ 2 ^ k) (hk : k ≤ 2096) : V.log2 ≤ 2096 := by
  by_cases hV : V = 0
  · subst hV; decide
  · have : V.log2 < k + 1 := by
      rw [Nat.log2_lt hV, Nat.pow_succ]
      have := Nat.two_pow_pos k
      omega
    omega
/-- A product. -/
theorem mul_near {x y r : Nat} (hx : Mid x) (hy : Mid y) (h : Gives (double.mul x y) r) : Num r ∧ Near 1 ((key r).natAbs * U) ((key x).natAbs * (key y).natAbs) := by
  have hU := U_pos
  by_cases h0 : key x = 0 ∨ key y = 0
  · have := mul_zero_any hx.1 hy.1 h0 h
    have hp := inf_pos
    refine ⟨num_of_key this.1 (by rw [this.2]; omega) (by rw [this.2]; omega), ?_⟩
    rw [this.2]
    have : (key x).natAbs * (key y).natAbs = 0 := by rcases h0 with h0 | h0 <;> rw [h0] <;> simp
    rw [this]
    simp only [Int.natAbs_zero, Nat.zero_mul]
    exact Near.refl _ _
  · have hx0 : key x ≠ 0 := fun c => h0 (.inl c)
    have hy0 : key y ≠ 0 := fun c => h0 (.inr c)
    obtain ⟨s, m, i, rx⟩ := hx.1
    obtain ⟨t, n, j, ry⟩ := hy.1
    have px := hx.place hx0 rx
    have py := hy.place hy0 ry
    have hu := mul_units rx ry (by omega)
    obtain ⟨V, hV⟩ : ∃ V, V = m * n * 2 ^ (i + j + 1074).toNat := ⟨_, rfl⟩
    have hmn : m * n ≤ 2 ^ 53 * 2 ^ 53 := Nat.mul_le_mul (Nat.le_of_lt (read_num rx).2.1) (Nat.le_of_lt (read_num ry).2.1)
    have hl : V.log2 ≤ 2096 := by
      refine mid_log (k := 53 + 53 + (i + j + 1074).toNat) ?_ (by omega)
      rw [hV, Nat.pow_add, Nat.pow_add 2 53]
      exact Nat.mul_le_mul_right _ hmn
    have hr := mul_form rx ry h
    rw [hr]
    refine ⟨num_round _ _ _ (by omega) V hV hl, ?_⟩
    rw [← hu, ← hV]
    exact (near_round _ _ _ (by omega) V hV hl).scale U
theorem mul_self_nn {x r : Nat} (hx : Num x) (h : Gives (double.mul x x) r) : 0 ≤ key r := by
  obtain ⟨s, m, i, rx⟩ := hx
  rw [mul_form rx rx h, Bool.xor_self]
  exact (nn_nearest _ _).key
/-- A sum of what is not below nought. -/
theorem add_near {x y r : Nat} (hx : Num x) (hy : Num y) (h1 : 0 ≤ key x) (h2 : 0 ≤ key y) (hb : ((key x).natAbs + (key y).natAbs).log2 ≤ 2096) (h : Gives (double.add x y) r) : Num r ∧ 0 ≤ key r ∧ Near 1 (key r).natAbs ((key x).natAbs + (key y).natAbs) := by
  obtain ⟨z, m, e, he, hr, hv, -, hz⟩ := sum_written hx hy h
  have ev : (key x + key y).natAbs = (key x).natAbs + (key y).natAbs := by omega
  rw [ev] at hv
  have hn := near_round z m e he _ hv hb
  have hm := num_round z m e he _ hv hb
  rw [← hr] at hn hm
  refine ⟨hm, ?_, hn⟩
  by_cases h0 : key x + key y = 0
  · have e0 : (key x).natAbs + (key y).natAbs = 0 := by omega
    have := (hn.mono (show 1 ≤ 12 by omega)).two.1
    omega
  · have hz := hz (by omega)
    rw [hr, hz]
    exact (nn_nearest _ _).key
/-- A quotient: what it stands for, and its sign. -/
theorem div_near {x y r : Nat} (hx : Mid x) (hy : Mid y) (h0 : key y ≠ 0) (h : Gives (double.div x y) r) : Num r ∧ Near 2 ((key r).natAbs * (key y).natAbs) ((key x).natAbs * U) := by
  have hU := U_pos
  obtain ⟨t, n, j, ry⟩ := hy.1
  have py := hy.place h0 ry
  obtain ⟨s, m, i, rx⟩ := hx.1
  have hr := div_form rx ry py.2.2 h
  by_cases hx0 : key x = 0
  · have hm : m = 0 := by
      have := key_abs rx
      rw [hx0] at this
      rcases Nat.mul_eq_zero.1 this.symm with c | c
      · exact c
      · exact absurd c (Nat.ne_of_gt (Nat.two_pow_pos _))
    subst hm
    rw [Nat.zero_shiftLeft, Nat.zero_div, Nat.zero_mod] at hr
    have e : r = double.nearest (s ^^ t) 0 (i - j - (54 + n.log2 - Nat.log2 0 : Nat) - 1) := hr
    have z := nearest_zero (s ^^ t) (i - j - (54 + n.log2 - Nat.log2 0 : Nat) - 1)
    have hp := inf_pos
    rw [e]
    refine ⟨num_of_key z.1 (by rw [z.2]; omega) (by rw [z.2]; omega), ?_⟩
    rw [z.2, hx0]
    simp only [Int.natAbs_zero, Nat.zero_mul]
    exact Near.refl _ _
  · have px := hx.place hx0 rx
    have hm53 : m.log2 < 53 := (Nat.log2_lt px.2.2).2 (read_num rx).2.1
    have hn53 : n.log2 < 53 := (Nat.log2_lt py.2.2).2 (read_num ry).2.1
    obtain ⟨g, hg⟩ : ∃ g, g = 54 + n.log2 - m.log2 := ⟨_, rfl⟩
    rw [← hg, Nat.shiftLeft_eq] at hr
    obtain ⟨D, hD⟩ : ∃ D, D = m * 2 ^ g := ⟨_, rfl⟩
    rw [← hD] at hr
    obtain ⟨M, hM⟩ : ∃ M, M = 2 * (D / n) + (D % n != 0).toNat := ⟨_, rfl⟩
    rw [← hM] at hr
    have hn0 : 0 < n := by omega
    have hdm := Nat.div_add_mod D n
    have hml := Nat.mod_lt D hn0
    have hMn : 2 ^ 53 * (M * n) ≤ 2 ^ 53 * (2 * D) + 2 * D ∧ 2 ^ 53 * (2 * D) ≤ 2 ^ 53 * (M * n) + 2 * D := by
      have hDl : 2 ^ 53 * n ≤ D := by
        have a1 : n < 2 ^ (n.log2 + 1) := Nat.lt_log2_self
        have a2 : 2 ^ m.log2 ≤ m := Nat.log2_self_le px.2.2
        have a3 : 2 ^ m.log2 * 2 ^ g ≤ D := by rw [hD]; exact Nat.mul_le_mul_right _ a2
        rw [← Nat.pow_add, show m.log2 + g = 53 + (n.log2 + 1) by omega, Nat.pow_add] at a3
        exact Nat.le_trans (Nat.mul_le_mul_left _ (Nat.le_of_lt a1)) a3
      have e1 : M * n = 2 * (n * (D / n)) + (D % n != 0).toNat * n := by rw [hM, Nat.add_mul, Nat.mul_assoc, Nat.mul_comm (D / n)]
      generalize n * (D / n) = Q at *
      by_cases hz : D % n = 0
      · rw [hz] at e1 hdm
        simp at e1
        omega
      · have : (D % n != 0) = true := by rw [bne_iff_ne]; exact hz
        have t1 : (true : Bool).toNat = 1 := rfl
        rw [this, t1, Nat.one_mul] at e1
        omega
    have hN1 : Near 1 (M * n) (2 * D) := Near.of_err hMn.1 hMn.2
    obtain ⟨V, hV⟩ : ∃ V, V = M * 2 ^ (i - j - (g : Int) - 1 + 1074).toNat := ⟨_, rfl⟩
    have hMb : M ≤ 2 ^ 111 := by
      have b1 : D < 2 ^ (m.log2 + 1) * 2 ^ g := by rw [hD]; exact Nat.mul_lt_mul_of_pos_right Nat.lt_log2_self (Nat.two_pow_pos _)
      rw [← Nat.pow_add] at b1
      have b2 := Nat.pow_le_pow_right (n := 2) (by omega) (show m.log2 + 1 + g ≤ 109 by omega)
      have b3 : D / n ≤ D := Nat.div_le_self _ _
      have b4 := Bool.toNat_le (D % n != 0)
      omega
    have hl : V.log2 ≤ 2096 := by
      refine mid_log (k := 111 + (i - j - (g : Int) - 1 + 1074).toNat) ?_ (by omega)
      rw [hV, Nat.pow_add]
      exact Nat.mul_le_mul_right _ hMb
    rw [hr]
    refine ⟨num_round _ _ _ (by omega) V hV hl, ?_⟩
    have h1 := (near_round (s ^^ t) M (i - j - (g : Int) - 1) (by omega) V hV hl).scale (key y).natAbs
    have h2 : Near 1 (V * (key y).natAbs) ((key x).natAbs * U) := by
      refine Near.cancel (k := 2) (by omega) ?_
      have e1 : V * (key y).natAbs * 2 = M * n * 2 ^ (i - (g : Int) + 2148).toNat := by
        rw [hV, key_abs ry]
        have : 2 ^ (i - j - (g : Int) - 1 + 1074).toNat * 2 ^ (j + 1074).toNat * 2 = 2 ^ (i - (g : Int) + 2148).toNat := by
          rw [← Nat.pow_add, ← Nat.pow_succ]
          congr 1
          omega
        rw [← this]
        rw [Nat.mul_mul_mul_comm, Nat.mul_assoc]
      have e2 : (key x).natAbs * U * 2 = 2 * D * 2 ^ (i - (g : Int) + 2148).toNat := by
        rw [key_abs rx, hD, show U = 2 ^ uExp from rfl]
        have : 2 ^ (i + 1074).toNat * 2 ^ uExp = 2 ^ g * 2 ^ (i - (g : Int) + 2148).toNat := by
          have hx : (i + 1074).toNat + uExp = g + (i - (g : Int) + 2148).toNat := by unfold uExp; omega
          rw [← Nat.pow_add, ← Nat.pow_add, hx]
        rw [Nat.mul_assoc m, this, Nat.mul_comm _ 2, ← Nat.mul_assoc m, Nat.mul_assoc 2]
      rw [e1, e2]
      exact hN1.scale _
    exact h1.trans h2
theorem div_sign {x y r : Nat} (hx : Num x) (hy : Num y) (h0 : 0 < key y) (h : Gives (double.div x y) r) : (key x < 0 → key r ≤ 0) ∧ (0 < key x → 0 ≤ key r) := by
  obtain ⟨s, m, i, rx⟩ := hx
  obtain ⟨t, n, j, ry⟩ := hy
  have hn : n ≠ 0 := by
    intro c
    have := key_abs ry
    rw [c, Nat.zero_mul] at this
    omega
  have ht := (key_sign ry).2 h0
  subst ht
  have hr := div_form rx ry hn h
  have hk := key_near_sign (s ^^ false) (2 * (m <<< (54 + n.log2 - m.log2) / n) + (m <<< (54 + n.log2 - m.log2) % n != 0).toNat) (i - j - (54 + n.log2 - m.log2 : Nat) - 1)
  rw [← hr, Bool.xor_false] at hk
  refine ⟨fun c => ?_, fun c => ?_⟩
  · rw [(key_sign rx).1 c] at hk
    simp at hk
    omega
  · rw [(key_sign rx).2 c] at hk
    simp at hk
    omega
/-- Of opposite numbers: quotients of one size. -/
theorem div_same {x x' y r r' : Nat} {s s' : Bool} {m : Nat} {i : Int} (hx : double.read x = .number s m i) (hx' : double.read x' = .number s' m i) (hy : Num y) (h0 : key y ≠ 0) (h : Gives (double.div x y) r) (h' : Gives (double.div x' y) r') : (key r).natAbs = (key r').natAbs := by
  obtain ⟨t, n, j, ry⟩ := hy
  have hn : n ≠ 0 := by
    intro c
    have := key_abs ry
    rw [c, Nat.zero_mul] at this
    omega
  rw [div_form hx ry hn h, div_form hx' ry hn h', nearest_sign (s ^^ t), nearest_sign (s' ^^ t), Int.natAbs_mul, Int.natAbs_mul]
  cases (s ^^ t) <;> cases (s' ^^ t) <;> rfl
/-- A root. -/
theorem sqrt_near {x r : Nat} (hx : Mid x) (h0 : 0 < key x) (h : Gives (double.sqrt x) r) : Num r ∧ 0 ≤ key r ∧ Near 3 ((key r).natAbs * (key r).natAbs) ((key x).natAbs * U) := by
  obtain ⟨s, m, i, rx⟩ := hx.1
  have px := hx.place (by omega) rx
  have hs := (key_sign rx).2 h0
  subst hs
  obtain ⟨more, g, m1, m2, hg, hr⟩ := sqrt_form rx px.2.2 h
  obtain ⟨n, hn⟩ : ∃ n, n = m * 2 ^ more := ⟨_, rfl⟩
  rw [← hn] at hr
  have hn0 : n ≠ 0 := by rw [hn]; exact Nat.mul_ne_zero px.2.2 (Nat.ne_of_gt (Nat.two_pow_pos _))
  have hnl : n.log2 = m.log2 + more := by rw [hn]; exact log2_mul_pow m more px.2.2
  have hnlo : 2 ^ 108 ≤ n := Nat.le_trans (Nat.pow_le_pow_right (by omega) (by omega)) (Nat.log2_self_le hn0)
  have hnhi : n < 2 ^ 110 := Nat.lt_of_lt_of_le (Nat.lt_log2_self) (Nat.pow_le_pow_right (by omega) (by omega))
  obtain ⟨s1, s2⟩ := wroot_spec n
  obtain ⟨w, hw⟩ : ∃ w, w = wroot n := ⟨_, rfl⟩
  rw [← hw] at s1 s2 hr
  obtain ⟨M, hM⟩ : ∃ M, M = 2 * w + (w * w != n).toNat := ⟨_, rfl⟩
  rw [← hM] at hr
  have w1 : 2 ^ 54 ≤ w := by
    rcases Nat.lt_or_ge w (2 ^ 54) with c | c
    · exfalso
      have := Nat.mul_le_mul (show w + 1 ≤ 2 ^ 54 by omega) (show w + 1 ≤ 2 ^ 54 by omega)
      omega
    · exact c
  have w2 : w < 2 ^ 55 := by
    rcases Nat.lt_or_ge w (2 ^ 55) with c | c
    · exact c
    · exfalso
      have := Nat.mul_le_mul c c
      omega
  have hMM : Near 1 (M * M) (4 * n) := by
    have ww : 2 ^ 54 * w ≤ w * w := Nat.mul_le_mul_right w w1
    have e3 : (w + 1) * (w + 1) = w * w + 2 * w + 1 := by rw [Nat.add_mul, Nat.mul_add]; omega
    rw [e3] at s2
    by_cases hz : w * w = n
    · have : (w * w != n) = false := by rw [bne_eq_false_iff_eq]; exact hz
      rw [this] at hM
      have e : M * M = 4 * n := by
        rw [hM, ← hz]
        have : (false : Bool).toNat = 0 := rfl
        rw [this, Nat.add_zero, Nat.mul_mul_mul_comm]
      rw [e]
      exact Near.refl _ _
    · have : (w * w != n) = true := by rw [bne_iff_ne]; exact hz
      rw [this] at hM
      have e : M * M = 4 * (w * w) + 4 * w + 1 := by
        rw [hM]
        have : (true : Bool).toNat = 1 := rfl
        rw [this, Nat.add_mul, Nat.mul_add, Nat.mul_mul_mul_comm]
        omega
      exact Near.of_err (by omega) (by omega)
  obtain ⟨V, hV⟩ : ∃ V, V = M * 2 ^ (g - 1 + 1074).toNat := ⟨_, rfl⟩
  have hMb : M ≤ 2 ^ 57 := by rw [hM]; have := Bool.toNat_le (w * w != n); omega
  have hl : V.log2 ≤ 2096 := by
    refine mid_log (k := 57 + (g - 1 + 1074).toNat) ?_ (by omega)
    rw [hV, Nat.pow_add]
    exact Nat.mul_le_mul_right _ hMb
  have hnr := near_round false M (g - 1) (by omega) V hV hl
  have hnum := num_round false M (g - 1) (by omega) V hV hl
  rw [← hr] at hnr hnum
  refine ⟨hnum, by rw [hr]; exact (nn_nearest _ _).key, ?_⟩
  have h1 : Near 2 ((key r).natAbs * (key r).natAbs) (V * V) := hnr.mul hnr
  refine h1.trans (n := 1) ?_
  refine Near.cancel (k := 4) (by omega) ?_
  have e1 : V * V * 4 = M * M * (2 ^ (g + 1074).toNat * 2 ^ (g + 1074).toNat) := by
    have hp : 2 ^ (g + 1074).toNat = 2 ^ (g - 1 + 1074).toNat * 2 := by rw [← Nat.pow_succ]; congr 1; omega
    rw [hV, hp, Nat.mul_mul_mul_comm M, Nat.mul_mul_mul_comm _ 2, Nat.mul_assoc (M * M)]
  have e2 : (key x).natAbs * U * 4 = 4 * n * (2 ^ (g + 1074).toNat * 2 ^ (g + 1074).toNat) := by
    have hx2 : 2 ^ (i + 1074).toNat * 2 ^ uExp = 2 ^ more * (2 ^ (g + 1074).toNat * 2 ^ (g + 1074).toNat) := by
      have hy : (i + 1074).toNat + uExp = more + ((g + 1074).toNat + (g + 1074).toNat) := by unfold uExp; omega
      rw [← Nat.pow_add, ← Nat.pow_add, ← Nat.pow_add, hy]
    rw [key_abs rx, hn, show U = 2 ^ uExp from rfl, Nat.mul_assoc m, hx2, Nat.mul_comm _ 4, ← Nat.mul_assoc m, Nat.mul_assoc 4]
  rw [e1, e2]
  exact hMM.scale _
end Flo
namespace Flo
open Ieee

theorem cutE (s : Bool) (n k : Nat) (hk : k ≤ n.log2 + 2) : Toward.even.cut s n k = n / 2 ^ k + (if 2 ^ k < 2 * (n % 2 ^ k) ∨ (2 ^ k = 2 * (n % 2 ^ k) ∧ n / 2 ^ k % 2 = 1) then 1 else 0) := by
  unfold Toward.cut
  simp only
  rw [Nat.min_eq_left hk, Nat.shiftLeft_eq, Nat.one_mul]
  by_cases h : 2 ^ k < 2 * (n % 2 ^ k) ∨ (2 ^ k = 2 * (n % 2 ^ k) ∧ n / 2 ^ k % 2 = 1)
  · rw [if_pos h]
    have : (decide (2 ^ k < 2 * (n % 2 ^ k)) || (2 ^ k == 2 * (n % 2 ^ k) && n / 2 ^ k % 2 == 1)) = true := by
      rcases h with h | ⟨h1, h2⟩
      · rw [decide_eq_true h]; rfl
      · rw [beq_iff_eq.2 h1, beq_iff_eq.2 h2]; simp
    rw [this]; rfl
  · rw [if_neg h]
    have : (decide (2 ^ k < 2 * (n % 2 ^ k)) || (2 ^ k == 2 * (n % 2 ^ k) && n / 2 ^ k % 2 == 1)) = false := by
      have h1 : ¬ 2 ^ k < 2 * (n % 2 ^ k) := fun c => h (.inl c)
      rw [decide_eq_false h1, Bool.false_or, Bool.and_eq_false_iff]
      by_cases h2 : 2 ^ k = 2 * (n % 2 ^ k)
      · exact .inr (beq_eq_false_iff_ne.2 fun c => h (.inr ⟨h2, c⟩))
      · exact .inl (beq_eq_false_iff_ne.2 h2)
    rw [this]; rfl
/-- Between powers of two. -/
theorem log_is {n p : Nat} (h1 : 2 ^ p ≤ n) (h2 : n < 2 ^ (p + 1)) : n.log2 = p := log_range h1 h2
/-- A great whole number as a float: its word. -/
theorem fl_big {M L : Nat} (hL : M.log2 = L) (h : 52 ≤ L) (hu : L ≤ 100) (h0 : M ≠ 0) : fl (M : Int) = double.word false ((L - 52 + 1074) * 2 ^ 52 + Toward.even.cut false M (L - 52)) := by
  rw [fl_eq, show decide ((M : Int) < 0) = false from decide_eq_false (by omega), Int.natAbs_natCast]
  have hlt : M < 2 ^ (L + 1) := by rw [← hL]; exact Nat.lt_log2_self
  unfold Format.nearest
  simp only
  rw [if_neg h0, infRung_d, binade_d, leastPlace_d, show double.fractionBits = 52 from rfl, hL]
  rw [show max ((0 : Int) + (L : Int) - ((52 : Nat) : Int)) (-1074) = ((L - 52 : Nat) : Int) by omega]
  rw [show ((0 : Int) - ((L - 52 : Nat) : Int)).toNat = 0 by omega, Nat.shiftLeft_zero, show (((L - 52 : Nat) : Int) - 0).toNat = L - 52 by omega,
    show (((L - 52 : Nat) : Int) - -1074).toNat = L - 52 + 1074 by omega]
  have hc := (cut_re false M (L - 52)).2.1
  have hk : Toward.even.cut false M (L - 52) ≤ 2 ^ 53 := by
    rcases Nat.lt_or_ge (2 ^ 53) (Toward.even.cut false M (L - 52)) with c | c
    · exfalso
      have k1 := Nat.mul_le_mul_right (2 ^ (L - 52)) c
      rw [Nat.succ_mul] at k1
      have k2 : M < 2 ^ 53 * 2 ^ (L - 52) := by
        rw [← Nat.pow_add]
        exact Nat.lt_of_lt_of_le hlt (Nat.pow_le_pow_right (by omega) (by omega))
      omega
    · exact c
  rw [Nat.min_eq_left (by omega)]
/-- Times a power of two: so many binades higher. -/
theorem mul_pow {R k f P : Nat} (hR : 2 ^ 52 ≤ R) (hk : R + k * 2 ^ 52 < 2047 * 2 ^ 52) (hP : double.read P = .number false (2 ^ 52) ((k : Int) - 52)) (h : Gives (double.mul (double.word false R) P) f ∨ Gives (double.mul P (double.word false R)) f) :
    f = double.word false (R + k * 2 ^ 52) := by
  have hr : double.read (double.word false R) = .number false (2 ^ 52 + R % 2 ^ 52) (-1074 + (R / 2 ^ 52 - 1 : Nat)) := by
    rw [read_word _ _ (by omega), if_neg (by omega), if_pos (by omega)]
  have hf : f = double.nearest false ((2 ^ 52 + R % 2 ^ 52) * 2 ^ 52) (-1074 + (R / 2 ^ 52 - 1 : Nat) + ((k : Int) - 52)) := by
    rcases h with h | h
    · exact mul_form hr hP h
    · have := mul_form hP hr h
      rw [Nat.mul_comm, Int.add_comm] at this
      exact this
  rw [hf]
  have hm1 : 2 ^ 52 ≤ 2 ^ 52 + R % 2 ^ 52 := by omega
  have hm2 : 2 ^ 52 + R % 2 ^ 52 < 2 ^ 53 := by have := Nat.mod_lt R (show 0 < 2 ^ 52 by omega); omega
  have hl : ((2 ^ 52 + R % 2 ^ 52) * 2 ^ 52).log2 = 104 := by
    rw [log2_mul_pow _ _ (by omega), log_is (p := 52) hm1 hm2]
  have hq : 1 ≤ R / 2 ^ 52 := by omega
  have hRm : R = R / 2 ^ 52 * 2 ^ 52 + R % 2 ^ 52 := by omega
  obtain ⟨m, hm⟩ : ∃ m, m = 2 ^ 52 + R % 2 ^ 52 := ⟨_, rfl⟩
  rw [← hm] at hl ⊢
  have hm0 : m * 2 ^ 52 ≠ 0 := by omega
  unfold Format.nearest
  simp only
  rw [if_neg hm0, infRung_d, binade_d, leastPlace_d, show double.fractionBits = 52 from rfl, hl]
  rw [show max ((-1074 : Int) + (R / 2 ^ 52 - 1 : Nat) + ((k : Int) - 52) + ((104 : Nat) : Int) - ((52 : Nat) : Int)) (-1074) = -1074 + ((R / 2 ^ 52 - 1 + k : Nat) : Int) by omega]
  rw [show ((-1074 : Int) + (R / 2 ^ 52 - 1 : Nat) + ((k : Int) - 52) - (-1074 + ((R / 2 ^ 52 - 1 + k : Nat) : Int))).toNat = 0 by omega, Nat.shiftLeft_zero,
    show (-1074 + ((R / 2 ^ 52 - 1 + k : Nat) : Int) - ((-1074 : Int) + (R / 2 ^ 52 - 1 : Nat) + ((k : Int) - 52))).toNat = 52 by omega,
    cut_even _ _ _ (Nat.dvd_mul_left _ _) hm0, Nat.mul_div_cancel _ (by omega), show (-1074 + ((R / 2 ^ 52 - 1 + k : Nat) : Int) - -1074).toNat = R / 2 ^ 52 - 1 + k by omega]
  have e : (R / 2 ^ 52 - 1 + k) * 2 ^ 52 + m = R + k * 2 ^ 52 := by
    rw [hm]
    omega
  rw [e, Nat.min_eq_left (by omega)]
/-- Halved once, the bit that falls out kept as the last one. -/
def half1 (N : Nat) : Nat := if N % 2 = 0 then N / 2 else 2 * (N / 4) + 1
/-- Halved twice, the bits that fall out kept as the last one. -/
def half2 (N : Nat) : Nat := if N % 4 = 0 then N / 4 else 2 * (N / 8) + 1
theorem cut_half1 (N : Nat) (h1 : 2 ^ 64 ≤ N) (h2 : N < 2 ^ 65) : Toward.even.cut false (half1 N) 11 = Toward.even.cut false N 12 ∧ (half1 N).log2 = 63 := by
  have b1 : 2 ^ 63 ≤ half1 N ∧ half1 N < 2 ^ 64 := by unfold half1; split <;> omega
  have hl := log_is b1.1 b1.2
  refine ⟨?_, hl⟩
  rw [cutE false _ 11 (by omega), cutE false N 12 (by rw [log_is h1 h2]; omega)]
  have e : half1 N / 2 ^ 11 = N / 2 ^ 12 := by unfold half1; split <;> omega
  rw [e]
  have e2 : (2 ^ 11 < 2 * (half1 N % 2 ^ 11) ↔ 2 ^ 12 < 2 * (N % 2 ^ 12)) ∧ (2 ^ 11 = 2 * (half1 N % 2 ^ 11) ↔ 2 ^ 12 = 2 * (N % 2 ^ 12)) := by
    unfold half1
    split <;> omega
  simp only [e2.1, e2.2]
theorem cut_half2 (N : Nat) (h1 : 2 ^ 64 ≤ N) (h2 : N < 2 ^ 65) : Toward.even.cut false (half2 N) 10 = Toward.even.cut false N 12 ∧ (half2 N).log2 = 62 := by
  have b1 : 2 ^ 62 ≤ half2 N ∧ half2 N < 2 ^ 63 := by unfold half2; split <;> omega
  have hl := log_is b1.1 b1.2
  refine ⟨?_, hl⟩
  rw [cutE false _ 10 (by omega), cutE false N 12 (by rw [log_is h1 h2]; omega)]
  have e : half2 N / 2 ^ 10 = N / 2 ^ 12 := by unfold half2; split <;> omega
  rw [e]
  have e2 : (2 ^ 10 < 2 * (half2 N % 2 ^ 10) ↔ 2 ^ 12 < 2 * (N % 2 ^ 12)) ∧ (2 ^ 10 = 2 * (half2 N % 2 ^ 10) ↔ 2 ^ 12 = 2 * (N % 2 ^ 12)) := by
    unfold half2
    split <;> omega
  simp only [e2.1, e2.2]
theorem fl_65 {N : Nat} (h1 : 2 ^ 64 ≤ N) (h2 : N < 2 ^ 65) : fl (N : Int) = double.word false ((12 + 1074) * 2 ^ 52 + Toward.even.cut false N 12) := by
  have := fl_big (log_is h1 h2) (by omega) (by omega) (by omega)
  rw [show 64 - 52 = 12 from rfl] at this
  exact this
def twoF : Nat := 4611686018427387904
def fourF : Nat := 4616189618054758400
theorem read_two : double.read twoF = .number false (2 ^ 52) (-51) := by decide
theorem read_four : double.read fourF = .number false (2 ^ 52) (-50) := by decide
theorem cut_lt (N : Nat) (h2 : N < 2 ^ 65) : Toward.even.cut false N 12 ≤ 2 ^ 53 := by
  have := (cut_re false N 12).2.1
  omega
theorem sq_one {N f : Nat} (h1 : 2 ^ 64 ≤ N) (h2 : N < 2 ^ 65) (h : Gives (double.mul twoF (fl (half1 N : Int))) f) : f = fl (N : Int) := by
  obtain ⟨c1, l1⟩ := cut_half1 N h1 h2
  have hc := cut_lt N h2
  have h0 : half1 N ≠ 0 := by intro c; rw [c] at l1; exact absurd l1 (by decide)
  rw [fl_big l1 (by omega) (by omega) h0, show 63 - 52 = 11 from rfl, c1] at h
  have := mul_pow (k := 1) (P := twoF) (by omega) (by omega) read_two (.inr h)
  rw [this, fl_65 h1 h2]
  congr 1
  omega
theorem sq_two {N f : Nat} (h1 : 2 ^ 64 ≤ N) (h2 : N < 2 ^ 65) (h : Gives (double.mul (fl (half2 N : Int)) fourF) f) : f = fl (N : Int) := by
  obtain ⟨c1, l1⟩ := cut_half2 N h1 h2
  have hc := cut_lt N h2
  have h0 : half2 N ≠ 0 := by intro c; rw [c] at l1; exact absurd l1 (by decide)
  rw [fl_big l1 (by omega) (by omega) h0, show 62 - 52 = 10 from rfl, c1] at h
  have := mul_pow (k := 2) (P := fourF) (by omega) (by omega) read_four (.inl h)
  rw [this, fl_65 h1 h2]
  congr 1
  omega
theorem U_place (N : Nat) : N * U = N * 2 ^ ((0 : Int) + 1074).toNat := by rw [pow_U (k := ((0 : Int) + 1074).toNat) rfl]
theorem U_log {N k : Nat} (h : N ≤ 2 ^ k) (hk : k ≤ 1000) : (N * U).log2 ≤ 2096 := by
  refine mid_log (k := k + uExp) ?_ (by unfold uExp; omega)
  rw [Nat.pow_add]
  exact Nat.mul_le_mul_right _ h
/-- A whole number as a float: nought, or neither great nor small. -/
theorem fl_mid {N : Nat} (h2 : N < 2 ^ 65) : Mid (fl (N : Int)) ∧ 0 ≤ key (fl (N : Int)) ∧ (0 < N → 0 < key (fl (N : Int))) := by
  have hf : fl (N : Int) = double.nearest false N 0 := by rw [fl_eq, show decide ((N : Int) < 0) = false from decide_eq_false (by omega), Int.natAbs_natCast]
  have hV := U_place N
  have hb := U_log (N := N) (k := 65) (by omega) (by omega)
  have hn := num_round false N 0 (by omega) _ hV hb
  have hr := (near_round false N 0 (by omega) _ hV hb).mono (n := 12) (by omega)
  have hs := (nn_nearest N 0).key
  rw [← hf] at hn hr hs
  clear hV hb
  obtain ⟨r1, r2⟩ := hr.two
  have hU := U_pos
  refine ⟨⟨hn, fun h0 => ?_, ?_⟩, hs, fun h => ?_⟩
  · have hN : N ≠ 0 := by
      intro c
      subst c
      rw [Nat.zero_mul] at r1
      omega
    have h3 : U ≤ N * U := Nat.le_mul_of_pos_left _ (by omega)
    have h4 : 2 * (key (fl (N : Int))).natAbs ≤ (key (fl (N : Int))).natAbs * WW := by
      rw [Nat.mul_comm 2]
      exact Nat.mul_le_mul_left _ (by unfold WW wB; decide)
    omega
  · have h3 : N * U ≤ 2 ^ 65 * U := Nat.mul_le_mul_right _ (by omega)
    have h4 : 2 * (2 ^ 65 * U) ≤ U * WW := by
      rw [Nat.mul_comm U, ← Nat.mul_assoc]
      exact Nat.mul_le_mul_right _ (by unfold WW wB; decide)
    omega
  · have h3 : U ≤ N * U := Nat.le_mul_of_pos_left _ h
    omega
end Flo
namespace Flo
open Ieee

/-- Above all numbers of the format. -/
def topX : Nat := 2098
theorem rep_lt {T : Nat} (h : Rep T) : T < 2 ^ topX := by
  rcases Nat.eq_zero_or_pos T with h0 | h0
  · subst h0; exact Nat.two_pow_pos _
  · exact Nat.lt_of_lt_of_le Nat.lt_log2_self (Nat.pow_le_pow_right (by omega) (by have := h.2; unfold topX; omega))
/-- What the format has is a multiple of the last place of all below it. -/
theorem rep_mult {T q : Nat} (h : Rep T) (hq : q = 0 ∨ 2 ^ (q + 52) ≤ T) : ∃ t, T = t * 2 ^ q := by
  rcases hq with hq | hq
  · subst hq; exact ⟨T, by rw [Nat.pow_zero, Nat.mul_one]⟩
  · have hT : T ≠ 0 := by have := Nat.two_pow_pos (q + 52); omega
    have h1 : q + 52 ≤ T.log2 := (Nat.le_log2 hT).2 hq
    have h2 : 2 ^ q ∣ 2 ^ (T.log2 - 52) := Nat.pow_dvd_pow 2 (by omega)
    obtain ⟨t, ht⟩ := Nat.dvd_trans h2 h.1
    exact ⟨t, by rw [ht, Nat.mul_comm]⟩
/-- What is written, in places: kept digits, and the place. c: places finer than the least one. -/
theorem round_fine (m : Nat) (e : Int) (c : Nat) (hc : 0 ≤ e + 1074 + c) (hm : m ≠ 0) (V : Nat) (hV : V = m * 2 ^ (e + 1074 + c).toNat) :
    ∃ q K, double.nearest false m e = double.word false (min (q * 2 ^ 52 + K) (2047 * 2 ^ 52)) ∧ K ≤ 2 ^ 53 ∧ (0 < q → 2 ^ 52 ≤ K) ∧
      2 * V ≤ 2 * (K * 2 ^ (q + c)) + 2 ^ (q + c) ∧ 2 * (K * 2 ^ (q + c)) ≤ 2 * V + 2 ^ (q + c) ∧ (0 < q → 2 ^ (q + c + 52) ≤ V) := by
  have hVn : V ≠ 0 := by rw [hV]; exact Nat.mul_ne_zero hm (Nat.ne_of_gt (Nat.two_pow_pos _))
  have hlog : V.log2 = m.log2 + (e + 1074 + c).toNat := by rw [hV]; exact log2_mul_pow m _ hm
  have hlo := Nat.log2_self_le hVn
  have hhi : V < 2 ^ (V.log2 + 1) := Nat.lt_log2_self
  unfold Format.nearest
  simp only
  rw [if_neg hm, infRung_d, binade_d, leastPlace_d]
  rw [show double.fractionBits = 52 from rfl]
  obtain ⟨last, hlast⟩ : ∃ last, last = max (e + (m.log2 : Int) - ((52 : Nat) : Int)) (-1074) := ⟨_, rfl⟩
  rw [← hlast]
  obtain ⟨q, hq⟩ : ∃ q, q = (last - -1074).toNat := ⟨_, rfl⟩
  rw [← hq]
  generalize hK : Toward.even.cut false (m <<< (e - last).toNat) (last - e).toNat = K
  have hk : 2 * V ≤ 2 * (K * 2 ^ (q + c)) + 2 ^ (q + c) ∧ 2 * (K * 2 ^ (q + c)) ≤ 2 * V + 2 ^ (q + c) := by
    by_cases hcc : last ≤ e
    · rw [show (last - e).toNat = 0 by omega, cut_none, Nat.shiftLeft_eq] at hK
      have e1 : V = K * 2 ^ (q + c) := by
        rw [hV, ← hK, Nat.mul_assoc, ← Nat.pow_add]
        congr 2
        omega
      rw [← e1]
      have := Nat.two_pow_pos (q + c)
      omega
    · have k := cut_re false m (last - e).toNat
      rw [show (e - last).toNat = 0 by omega, Nat.shiftLeft_zero] at hK
      rw [hK] at k
      have e3 : q + c = (last - e).toNat + (e + 1074 + c).toNat := by omega
      generalize (last - e).toNat = g at *
      rw [hV, e3, Nat.pow_add, ← Nat.mul_assoc K]
      generalize 2 ^ (e + 1074 + c).toNat = P at *
      have k1 := Nat.mul_le_mul_right P k.1
      have k2 := Nat.mul_le_mul_right P k.2.1
      rw [Nat.add_mul, Nat.mul_assoc 2, Nat.mul_assoc 2] at k1 k2
      exact ⟨k1, k2⟩
  obtain ⟨h1, h2⟩ := hk
  have hp := Nat.two_pow_pos (q + c)
  have hq1 : V.log2 ≤ q + c + 52 := by omega
  have hq2 : 0 < q → V.log2 = q + c + 52 := by omega
  refine ⟨q, K, rfl, ?_, fun h0 => ?_, h1, h2, fun h0 => ?_⟩
  · rcases Nat.lt_or_ge (2 ^ 53) K with h | h
    · exfalso
      have k1 := Nat.mul_le_mul_right (2 ^ (q + c)) h
      rw [Nat.succ_mul] at k1
      have k2 : V < 2 ^ 53 * 2 ^ (q + c) := by
        rw [← Nat.pow_add]
        exact Nat.lt_of_lt_of_le hhi (Nat.pow_le_pow_right (by omega) (by omega))
      omega
    · exact h
  · rcases Nat.lt_or_ge K (2 ^ 52) with h | h
    · exfalso
      have k1 := Nat.mul_le_mul_right (2 ^ (q + c)) h
      rw [Nat.succ_mul] at k1
      have k2 : 2 ^ 52 * 2 ^ (q + c) ≤ V := by
        rw [← Nat.pow_add]
        exact Nat.le_trans (Nat.pow_le_pow_right (by omega) (by have := hq2 h0; omega)) hlo
      omega
    · exact h
  · rw [← hq2 h0]; exact hlo
theorem key_min {q K : Nat} (hK : K ≤ 2 ^ 53) (hq : 0 < q → 2 ^ 52 ≤ K) :
    (q * 2 ^ 52 + K < 2047 * 2 ^ 52 → key (double.word false (min (q * 2 ^ 52 + K) (2047 * 2 ^ 52))) = ((K * 2 ^ q : Nat) : Int)) ∧
    (2047 * 2 ^ 52 ≤ q * 2 ^ 52 + K → key (double.word false (min (q * 2 ^ 52 + K) (2047 * 2 ^ 52))) = inf) := by
  refine ⟨fun h => ?_, fun h => ?_⟩
  · rw [Nat.min_eq_left (by omega), (key_word false _ h).2, rungVal_eq q K hK hq]
    simp
  · rw [Nat.min_eq_right h, (key_word_inf false).2]
    simp
theorem nearest_0 (s : Bool) (e : Int) : key (double.nearest s 0 e) = 0 := (nearest_zero s e).2
theorem top_big : 2 ^ topX ≤ big := Nat.pow_le_pow_right (by omega) (by unfold bigE topX; omega)
theorem int_lt_inf {a : Nat} (h : a < big) : ((a : Nat) : Int) < inf := by unfold inf; omega
theorem neg_lt_inf (a : Nat) : -inf < (a : Int) := by have := inf_pos; omega
theorem pow_lt_top {a : Nat} (h : 2 ^ a < 2 ^ topX) : a < topX := (Nat.pow_lt_pow_iff_right (by omega)).1 h
theorem rung_zero {q K : Nat} (h : q = 0) (hK : K ≤ 2 ^ 53) : q * 2 ^ 52 + K < 2047 * 2 ^ 52 := by omega
theorem rung_53 {q K : Nat} (h : 53 + q < topX) (hK : K = 2 ^ 53) : q * 2 ^ 52 + K < 2047 * 2 ^ 52 := by unfold topX at h; omega
theorem rung_52 {q K : Nat} (h : 52 + q < topX) (hK : K ≤ 2 ^ 53) (h9 : ¬ K = 2 ^ 53) : q * 2 ^ 52 + K < 2047 * 2 ^ 52 := by unfold topX at h; omega
/-- Rounding does not pass a number of the format: from below. -/
theorem near_le {m : Nat} {e : Int} {c : Nat} (hc : 0 ≤ e + 1074 + c) {V : Nat} (hV : V = m * 2 ^ (e + 1074 + c).toNat) {T : Nat} (hT : Rep T) (h : V ≤ T * 2 ^ c) : key (double.nearest false m e) ≤ T ∧ Num (double.nearest false m e) := by
  by_cases hm : m = 0
  · subst hm
    have hp := inf_pos
    exact ⟨by rw [nearest_0]; omega, num_of_key (nearest_zero false e).1 (by rw [nearest_0]; omega) (by rw [nearest_0]; omega)⟩
  obtain ⟨q, K, hw, hK, hqK, h1, h2, h3⟩ := round_fine m e c hc hm V hV
  have hpc := Nat.two_pow_pos (q + c)
  have ht : ∃ t, T = t * 2 ^ q := by
    refine rep_mult hT ?_
    rcases Nat.eq_zero_or_pos q with h0 | h0
    · exact .inl h0
    · refine .inr ?_
      have h4 := Nat.le_trans (h3 h0) h
      rw [show q + c + 52 = (q + 52) + c by omega, Nat.pow_add _ (q + 52)] at h4
      exact Nat.le_of_mul_le_mul_right h4 (Nat.two_pow_pos _)
  obtain ⟨t, ht⟩ := ht
  have hKt : K ≤ t := by
    rw [ht, Nat.mul_assoc, ← Nat.pow_add] at h
    have h5 : 2 * (K * 2 ^ (q + c)) ≤ 2 * (t * 2 ^ (q + c)) + 2 ^ (q + c) := by omega
    have h6 : (2 * K) * 2 ^ (q + c) ≤ (2 * t + 1) * 2 ^ (q + c) := by rw [Nat.add_mul, Nat.one_mul, Nat.mul_assoc, Nat.mul_assoc]; exact h5
    have := Nat.le_of_mul_le_mul_right h6 hpc
    omega
  have hle : K * 2 ^ q ≤ T := by rw [ht]; exact Nat.mul_le_mul_right _ hKt
  have hlt := rep_lt hT
  have hrung : q * 2 ^ 52 + K < 2047 * 2 ^ 52 := by
    rcases Nat.eq_zero_or_pos q with h0 | h0
    · exact rung_zero h0 hK
    · have h7 : 2 ^ (52 + q) < 2 ^ topX := by
        rw [Nat.pow_add]
        exact Nat.lt_of_le_of_lt (Nat.mul_le_mul_right _ (hqK h0)) (Nat.lt_of_le_of_lt hle hlt)
      by_cases h9 : K = 2 ^ 53
      · have h7 : 2 ^ (53 + q) < 2 ^ topX := by
          rw [Nat.pow_add, ← h9]
          exact Nat.lt_of_le_of_lt hle hlt
        exact rung_53 (pow_lt_top h7) h9
      · exact rung_52 (pow_lt_top h7) hK h9
  have hk := (key_min hK hqK).1 hrung
  rw [hw, hk]
  refine ⟨Int.ofNat_le.2 hle, ?_⟩
  have hb : K * 2 ^ q < big := Nat.lt_of_le_of_lt hle (Nat.lt_of_lt_of_le hlt top_big)
  have hi := int_lt_inf hb
  have hn := neg_lt_inf (K * 2 ^ q)
  clear hlt hle h1 h2 h3 h hV hb
  refine num_of_key ?_ (by rw [hk]; exact hn) (by rw [hk]; exact hi)
  rw [Nat.min_eq_left (Nat.le_of_lt hrung)]
  exact (key_word false _ hrung).1
/-- .. from above. -/
theorem near_ge {m : Nat} {e : Int} {c : Nat} (hc : 0 ≤ e + 1074 + c) {V : Nat} (hV : V = m * 2 ^ (e + 1074 + c).toNat) {T : Nat} (hT : Rep T) (h : T * 2 ^ c ≤ V) : (T : Int) ≤ key (double.nearest false m e) := by
  by_cases hm : m = 0
  · subst hm
    rw [Nat.zero_mul] at hV
    subst hV
    rw [nearest_0]
    rcases Nat.mul_eq_zero.1 (Nat.le_zero.1 h) with h0 | h0
    · omega
    · exact absurd h0 (Nat.ne_of_gt (Nat.two_pow_pos _))
  obtain ⟨q, K, hw, hK, hqK, h1, h2, h3⟩ := round_fine m e c hc hm V hV
  have hpc := Nat.two_pow_pos (q + c)
  have hlt := rep_lt hT
  have hle : T ≤ K * 2 ^ q := by
    by_cases hq : q = 0 ∨ 2 ^ (q + 52) ≤ T
    · obtain ⟨t, ht⟩ := rep_mult hT hq
      have hKt : t ≤ K := by
        rw [ht, Nat.mul_assoc, ← Nat.pow_add] at h
        have h5 : 2 * (t * 2 ^ (q + c)) ≤ 2 * (K * 2 ^ (q + c)) + 2 ^ (q + c) := by omega
        have h6 : (2 * t) * 2 ^ (q + c) ≤ (2 * K + 1) * 2 ^ (q + c) := by rw [Nat.add_mul, Nat.one_mul, Nat.mul_assoc, Nat.mul_assoc]; exact h5
        have := Nat.le_of_mul_le_mul_right h6 hpc
        omega
      rw [ht]
      exact Nat.mul_le_mul_right _ hKt
    · have hq0 : 0 < q := by omega
      have h7 := Nat.mul_le_mul_right (2 ^ q) (hqK hq0)
      rw [← Nat.pow_add, Nat.add_comm 52 q] at h7
      omega
  rw [hw]
  rcases Nat.lt_or_ge (q * 2 ^ 52 + K) (2047 * 2 ^ 52) with hr | hr
  · rw [(key_min hK hqK).1 hr]; omega
  · rw [(key_min hK hqK).2 hr]
    exact Int.le_of_lt (int_lt_inf (Nat.lt_of_lt_of_le hlt top_big))
end Flo
namespace Flo
open Ieee

theorem opp_num {m : Nat} {e : Int} (h : Num (double.nearest false m e)) : Num (double.nearest true m e) := by
  have hk := nearest_opp m e
  have hb := num_key h
  exact num_of_key (nan_nearest _ _ _) (by rw [hk]; omega) (by rw [hk]; omega)
/-- Of either sign. -/
theorem near_le_abs {s : Bool} {m : Nat} {e : Int} {c : Nat} (hc : 0 ≤ e + 1074 + c) {V : Nat} (hV : V = m * 2 ^ (e + 1074 + c).toNat) {T : Nat} (hT : Rep T) (h : V ≤ T * 2 ^ c) : (key (double.nearest s m e)).natAbs ≤ T ∧ Num (double.nearest s m e) := by
  obtain ⟨h1, h2⟩ := near_le hc hV hT h
  have h3 := (nn_nearest m e).key
  cases s with
  | false => exact ⟨by omega, h2⟩
  | true =>
    refine ⟨?_, opp_num h2⟩
    rw [nearest_opp]
    omega
theorem near_ge_abs {s : Bool} {m : Nat} {e : Int} {c : Nat} (hc : 0 ≤ e + 1074 + c) {V : Nat} (hV : V = m * 2 ^ (e + 1074 + c).toNat) {T : Nat} (hT : Rep T) (h : T * 2 ^ c ≤ V) : T ≤ (key (double.nearest s m e)).natAbs := by
  have h1 := near_ge hc hV hT h
  cases s with
  | false => omega
  | true =>
    rw [nearest_opp]
    omega
theorem U_pow : 2 ^ uExp = U := rfl
section
variable {x y r : Nat}
theorem mul_place {s t : Bool} {m n : Nat} {i j : Int} (hx : double.read x = .number s m i) (hy : double.read y = .number t n j) : (key x).natAbs * (key y).natAbs = m * n * 2 ^ (i + j + 1074 + (uExp : Nat)).toNat := by
  have h1 := read_num hx
  have h2 := read_num hy
  rw [key_abs hx, key_abs hy, Nat.mul_mul_mul_comm, ← Nat.pow_add]
  congr 2
  unfold uExp
  omega
/-- A product: what it does not pass. -/
theorem mul_le (hx : Num x) (hy : Num y) (h : Gives (double.mul x y) r) {T : Nat} (hT : Rep T) (hb : (key x).natAbs * (key y).natAbs ≤ T * U) : (key r).natAbs ≤ T ∧ Num r := by
  obtain ⟨s, m, i, rx⟩ := hx
  obtain ⟨t, n, j, ry⟩ := hy
  have h1 := read_num rx
  have h2 := read_num ry
  rw [mul_form rx ry h]
  exact near_le_abs (c := uExp) (by unfold uExp; omega) (mul_place rx ry) hT (by rw [U_pow]; exact hb)
theorem mul_sign (hx : Num x) (hy : Num y) (h : Gives (double.mul x y) r) : (0 ≤ key x * key y → 0 ≤ key r) ∧ (key x * key y ≤ 0 → key r ≤ 0) := by
  by_cases h0 : key x = 0 ∨ key y = 0
  · have := (mul_zero_any hx hy h0 h).2
    rw [this]
    exact ⟨fun _ => Int.le_refl _, fun _ => Int.le_refl _⟩
  obtain ⟨s, m, i, rx⟩ := hx
  obtain ⟨t, n, j, ry⟩ := hy
  have hs := xor_sign (key_sign rx) (key_sign ry)
  have hr := mul_form rx ry h
  have hk := key_near_sign (s ^^ t) (m * n) (i + j)
  rw [← hr] at hk
  have hne : key x * key y ≠ 0 := fun c => by
    rcases Int.mul_eq_zero.1 c with c | c
    · exact h0 (.inl c)
    · exact h0 (.inr c)
  refine ⟨fun c => ?_, fun c => ?_⟩
  · rw [hs.2 (by omega)] at hk
    simp at hk
    omega
  · rw [hs.1 (by omega)] at hk
    simp at hk
    omega
/-- A sum: what it does not pass. -/
theorem add_le (hx : Num x) (hy : Num y) (h : Gives (double.add x y) r) {T : Nat} (hT : Rep T) (hb : (key x + key y).natAbs ≤ T) : (key r).natAbs ≤ T ∧ Num r := by
  obtain ⟨z, m, e, he, hr, hV, _, _⟩ := sum_written hx hy h
  rw [hr]
  exact near_le_abs (c := 0) (V := (key x + key y).natAbs) (by omega) (by rw [hV]; congr 2; omega) hT (by rw [Nat.pow_zero, Nat.mul_one]; exact hb)
theorem add_ge (hx : Num x) (hy : Num y) (h : Gives (double.add x y) r) {T : Nat} (hT : Rep T) (hb : T ≤ (key x + key y).natAbs) : T ≤ (key r).natAbs := by
  obtain ⟨z, m, e, he, hr, hV, _, _⟩ := sum_written hx hy h
  rw [hr]
  exact near_ge_abs (c := 0) (V := (key x + key y).natAbs) (by omega) (by rw [hV]; congr 2; omega) hT (by rw [Nat.pow_zero, Nat.mul_one]; exact hb)
theorem rep_zero : Rep 0 := ⟨by decide, by decide⟩
theorem add_sign (hx : Num x) (hy : Num y) (h : Gives (double.add x y) r) : (0 ≤ key x + key y → 0 ≤ key r) ∧ (key x + key y ≤ 0 → key r ≤ 0) := by
  by_cases h0 : key x + key y = 0
  · have := (add_le hx hy h rep_zero (by rw [h0]; decide)).1
    have : key r = 0 := by omega
    rw [this]
    exact ⟨fun _ => Int.le_refl _, fun _ => Int.le_refl _⟩
  · obtain ⟨z, m, e, he, hr, hV, h1, h2⟩ := sum_written hx hy h
    have hk := key_near_sign z m e
    rw [← hr] at hk
    refine ⟨fun c => ?_, fun c => ?_⟩
    · rw [h2 (by omega)] at hk
      simp at hk
      omega
    · rw [h1 (by omega)] at hk
      simp at hk
      omega
theorem sub_add (h : Gives (double.sub x y) r) : Gives (double.add x (Flo.neg y)) r := by
  unfold Format.add
  rw [read_neg]
  exact h
theorem sub_le (hx : Num x) (hy : Num y) (h : Gives (double.sub x y) r) {T : Nat} (hT : Rep T) (hb : (key x - key y).natAbs ≤ T) : (key r).natAbs ≤ T ∧ Num r :=
  add_le hx hy.neg (sub_add h) hT (by rw [key_neg]; exact hb)
theorem sub_sign (hx : Num x) (hy : Num y) (h : Gives (double.sub x y) r) : (0 ≤ key x - key y → 0 ≤ key r) ∧ (key x - key y ≤ 0 → key r ≤ 0) := by
  have := add_sign hx hy.neg (sub_add h)
  rw [key_neg] at this
  exact this
end
/-- A weight: from nought on, and well below one. -/
def Weight (w : Nat) : Prop := Num w ∧ 0 ≤ key w ∧ (key w).natAbs * 2 ^ 30 ≤ U * (2 ^ 30 - 1)
theorem Weight.one {w : Nat} (h : Weight w) : (key w).natAbs ≤ U := by
  have h1 := h.2.2
  have h2 : U * (2 ^ 30 - 1) ≤ U * 2 ^ 30 := Nat.mul_le_mul_left _ (by omega)
  exact Nat.le_of_mul_le_mul_right (Nat.le_trans h1 h2) (by omega)
/-- The ways of a speed, by numbers. -/
def SpeedR (n : Nat) (old v r : Nat) : Prop := ∃ w d e, Gives (double.div (fl (n : Int)) (fl ((n + 8 : Nat) : Int))) w ∧ Gives (double.sub v old) d ∧ Gives (double.mul w d) e ∧ Gives (double.add old e) r
theorem num_rep {x : Nat} (h : Num x) (h0 : 0 ≤ key x) : Rep (key x).toNat := by
  have := h.rep
  rwa [show (key x).natAbs = (key x).toNat by omega] at this
/-- Below the difference: the part of it. -/
theorem part_le {X D W : Nat} (hD : Rep D) (hD1 : ∀ T, Rep T → X ≤ T → D ≤ T) (hW : W * 2 ^ 30 ≤ U * (2 ^ 30 - 1)) (hW1 : W ≤ U) : ∃ T, Rep T ∧ T ≤ X ∧ W * D ≤ T * U := by
  by_cases hXr : Rep X
  · have h1 := hD1 X hXr (Nat.le_refl _)
    exact ⟨X, hXr, Nat.le_refl _, by rw [Nat.mul_comm X]; exact Nat.mul_le_mul hW1 h1⟩
  · rcases Nat.lt_or_ge X D with hlt | hge
    · have hX53 : 2 ^ 53 ≤ X := by
        rcases Nat.lt_or_ge X (2 ^ 53) with c | c
        · exfalso
          have : X.log2 - 52 = 0 ∧ X.log2 ≤ 2097 := by
            rcases Nat.eq_zero_or_pos X with h0 | h0
            · subst h0; exact ⟨by decide, by decide⟩
            · have := (Nat.log2_lt (by omega)).2 c
              omega
          refine hXr ⟨?_, this.2⟩
          have := this.1
          rw [this, Nat.pow_zero]
          exact Nat.one_dvd _
        · exact c
      obtain ⟨q, hq⟩ : ∃ q, q = D.log2 - 52 := ⟨_, rfl⟩
      have hD0 : D ≠ 0 := by omega
      have hDl : 52 ≤ D.log2 := by
        rw [Nat.le_log2 hD0]
        omega
      obtain ⟨K, hK⟩ := hD.1
      rw [← hq] at hK
      have hq2 : q ≤ 2045 := by have := hD.2; omega
      have hlo := Nat.log2_self_le hD0
      rw [show D.log2 = 52 + q by omega, Nat.pow_add] at hlo
      have hhi : D < 2 ^ (D.log2 + 1) := Nat.lt_log2_self
      rw [show D.log2 + 1 = 53 + q by omega, Nat.pow_add] at hhi
      have hp := Nat.two_pow_pos q
      rw [Nat.mul_comm] at hK
      have hK1 : 2 ^ 52 ≤ K := by rw [hK] at hlo; exact Nat.le_of_mul_le_mul_right hlo hp
      have hK2 : K < 2 ^ 53 := by rw [hK] at hhi; exact Nat.lt_of_mul_lt_mul_right hhi
      have hTr : Rep ((K - 1) * 2 ^ q) := rep_mul (by omega) hq2
      have hTD : (K - 1) * 2 ^ q + 2 ^ q = D := by rw [hK, ← Nat.succ_mul]; congr 1; omega
      refine ⟨(K - 1) * 2 ^ q, hTr, ?_, ?_⟩
      · rcases Nat.lt_or_ge X ((K - 1) * 2 ^ q) with c | c
        · have := hD1 _ hTr (Nat.le_of_lt c)
          omega
        · exact c
      · generalize (K - 1) * 2 ^ q = T at *
        have h30 : 2 ^ 30 * 2 ^ q ≤ D := Nat.le_trans (Nat.mul_le_mul_right _ (by omega)) hlo
        generalize 2 ^ q = P at *
        have a1 : W * D * 2 ^ 30 ≤ U * (2 ^ 30 - 1) * D := by
          rw [Nat.mul_right_comm]
          exact Nat.mul_le_mul_right _ hW
        have a2 : (2 ^ 30 - 1) * D ≤ T * 2 ^ 30 := by omega
        have a3 : U * (2 ^ 30 - 1) * D ≤ T * U * 2 ^ 30 := by
          rw [Nat.mul_assoc U, Nat.mul_comm T, Nat.mul_assoc U]
          exact Nat.mul_le_mul_left _ a2
        exact Nat.le_of_mul_le_mul_right (Nat.le_trans a1 a3) (by omega)
    · exact ⟨D, hD, hge, by rw [Nat.mul_comm D]; exact Nat.mul_le_mul_right _ hW1⟩
/-- **The speed lies between the elder one and the move's own**: at most the greater one of both, never below nought. -/
theorem speed_between {old v w d e r : Nat} (ho : Num old) (ho0 : 0 ≤ key old) (hv : Num v) (hv0 : 0 ≤ key v) (hw : Weight w) (hd : Gives (double.sub v old) d) (he : Gives (double.mul w d) e) (hr : Gives (double.add old e) r) :
    Num r ∧ 0 ≤ key r ∧ (key v ≤ key old → key r ≤ key old) ∧ (key old ≤ key v → key r ≤ key v) := by
  have ro := num_rep ho ho0
  have rv := num_rep hv hv0
  have hw1 := hw.one
  rcases Int.le_total (key v) (key old) with hc | hc
  · have d1 := sub_le hv ho hd ro (by omega)
    have d2 := (sub_sign hv ho hd).2 (by omega)
    have rd := d1.2.rep
    have e1 := mul_le hw.1 d1.2 he rd (by rw [Nat.mul_comm _ U]; exact Nat.mul_le_mul_right _ hw1)
    have e2 := (mul_sign hw.1 d1.2 he).2 (Int.mul_nonpos_of_nonneg_of_nonpos hw.2.1 d2)
    have r1 := add_le ho e1.2 hr ro (by omega)
    have r2 := (add_sign ho e1.2 hr).1 (by omega)
    refine ⟨r1.2, r2, fun _ => by omega, fun h => by omega⟩
  · obtain ⟨X, hX⟩ : ∃ X, X = (key v - key old).natAbs := ⟨_, rfl⟩
    have hXv : X ≤ (key v).toNat := by omega
    have d1 := sub_le hv ho hd rv (by omega)
    have d2 := (sub_sign hv ho hd).1 (by omega)
    have rd := d1.2.rep
    have hDX : ∀ T, Rep T → X ≤ T → (key d).natAbs ≤ T := fun T hT h => (sub_le hv ho hd hT (by omega)).1
    obtain ⟨T, hT, hTX, hWT⟩ := part_le rd hDX hw.2.2 hw1
    have e1 := mul_le hw.1 d1.2 he hT hWT
    have e2 := (mul_sign hw.1 d1.2 he).1 (Int.mul_nonneg hw.2.1 d2)
    have r1 := add_le ho e1.2 hr rv (by omega)
    have r2 := (add_sign ho e1.2 hr).1 (by omega)
    have r3 := add_ge ho e1.2 hr ro (by omega)
    refine ⟨r1.2, r2, fun _ => by omega, fun h => by omega⟩
theorem isW_nat {n : Nat} (h : n ≤ 2 ^ 53) : key (fl (n : Int)) = (n : Int) * U := (isW_fl (n := (n : Int)) (by omega)).2
theorem weight_lin (n : Nat) (hn : n ≤ 4294967295) : n * (SS ^ 2 * 2 ^ 30) ≤ (2 ^ 30 - 1) * ((n + 8) * PP ^ 2) := by
  unfold SS PP
  omega
/-- The weight of n ticks. -/
theorem weight_of {n w : Nat} (h1 : 1 ≤ n) (hn : n ≤ 4294967295) (h : Gives (double.div (fl (n : Int)) (fl ((n + 8 : Nat) : Int))) w) : Weight w := by
  have m1 := (fl_mid (N := n) (by omega)).1
  have m2 := (fl_mid (N := n + 8) (by omega)).1
  have k1 := isW_nat (n := n) (by omega)
  have k2 := isW_nat (n := n + 8) (by omega)
  have hU := U_pos
  have k3 : (key (fl ((n + 8 : Nat) : Int))).natAbs = (n + 8) * U := by rw [k2, Int.natAbs_mul]; rfl
  have k4 : (key (fl (n : Int))).natAbs = n * U := by rw [k1, Int.natAbs_mul]; rfl
  have p1 : 0 < (n : Int) * U := Int.mul_pos (by omega) (by omega)
  have p2 : 0 < ((n + 8 : Nat) : Int) * U := Int.mul_pos (by omega) (by omega)
  obtain ⟨r1, r2⟩ := div_near m1 m2 (by rw [k2]; omega) h
  have r3 := (div_sign m1.1 m2.1 (by rw [k2]; exact p2) h).2 (by rw [k1]; exact p1)
  refine ⟨r1, r3, ?_⟩
  rw [k3, k4] at r2
  have r4 := r2.1
  generalize (key w).natAbs = W at *
  have hl := weight_lin n hn
  have hpp := PP_pos 2
  have hc : 0 < (n + 8) * PP ^ 2 := Nat.mul_pos (by omega) hpp
  have a1 : W * (2 ^ 30) * ((n + 8) * PP ^ 2) * U ≤ U * (2 ^ 30 - 1) * ((n + 8) * PP ^ 2) * U := by
    have b1 := Nat.mul_le_mul_right (2 ^ 30) r4
    have b2 : W * (2 ^ 30) * ((n + 8) * PP ^ 2) * U = W * ((n + 8) * U) * PP ^ 2 * 2 ^ 30 := by
      generalize PP ^ 2 = A; generalize (2 : Nat) ^ 30 = B; generalize n + 8 = C
      grind
    have b3 : n * U * U * SS ^ 2 * 2 ^ 30 = U * U * (n * (SS ^ 2 * 2 ^ 30)) := by
      generalize SS ^ 2 = A; generalize (2 : Nat) ^ 30 = B
      grind
    have b4 : U * (2 ^ 30 - 1) * ((n + 8) * PP ^ 2) * U = U * U * ((2 ^ 30 - 1) * ((n + 8) * PP ^ 2)) := by
      generalize PP ^ 2 = A; generalize (2 : Nat) ^ 30 - 1 = B; generalize n + 8 = C
      grind
    rw [b2, b4]
    rw [b3] at b1
    exact Nat.le_trans b1 (Nat.mul_le_mul_left _ hl)
  exact Nat.le_of_mul_le_mul_right (Nat.le_of_mul_le_mul_right a1 hU) hc
/-- What a root of a whole number is: nought, or neither great nor small. -/
theorem root_mid {N r : Nat} (hN : N < 2 ^ 65) (h : Gives (double.sqrt (fl (N : Int))) r) : Mid r ∧ 0 ≤ key r := by
  obtain ⟨m1, m2, m3⟩ := fl_mid hN
  have hU := U_pos
  rcases Nat.eq_zero_or_pos N with h0 | h0
  · subst h0
    have e : r = 0 := by
      have : double.sqrt (fl ((0 : Nat) : Int)) = some 0 := by decide
      rw [this] at h
      exact h
    subst e
    rw [key_zero]
    exact ⟨⟨num_zero, fun h => absurd key_zero h, by rw [key_zero]; simp⟩, Int.le_refl _⟩
  · obtain ⟨r1, r2, r3⟩ := sqrt_near m1 (m3 h0) h
    obtain ⟨t1, t2⟩ := (r3.mono (n := 12) (by omega)).two
    have f1 := m1.2.1 (by have := m3 h0; omega)
    have f2 := m1.2.2
    have hW : 2 ≤ WW := by unfold WW wB; decide
    refine ⟨⟨r1, fun _ => ?_, ?_⟩, r2⟩
    all_goals
      clear m1 m2 m3 r1 r2 r3 hN h
      generalize (key (fl (N : Int))).natAbs = F at *
      generalize (key r).natAbs = R at *
      generalize WW = B at *
      generalize U = V at *
    · rcases Nat.lt_or_ge (R * B) V with c | c
      · exfalso
        have c1 : R * B * (R * B) < V * V := Nat.mul_lt_mul_of_lt_of_lt c c
        have c2 : V * V ≤ F * B * V := Nat.mul_le_mul_right _ f1
        have c3 : F * V * B ≤ 2 * (R * R) * B := Nat.mul_le_mul_right _ t2
        have c4 : R * R * B * 2 ≤ R * R * B * B := Nat.mul_le_mul_left _ hW
        have e1 : R * B * (R * B) = R * R * B * B := by grind
        have e2 : F * B * V = F * V * B := by grind
        have e3 : 2 * (R * R) * B = R * R * B * 2 := by grind
        omega
      · exact c
    · rcases Nat.lt_or_ge (V * B) R with c | c
      · exfalso
        have c1 : V * B * (V * B) < R * R := Nat.mul_lt_mul_of_lt_of_lt c c
        have c2 : F * V ≤ V * B * V := Nat.mul_le_mul_right _ f2
        have c4 : V * V * B * 2 ≤ V * V * B * B := Nat.mul_le_mul_left _ hW
        have e1 : V * B * (V * B) = V * V * B * B := by grind
        have e2 : V * B * V = V * V * B := by grind
        omega
      · exact c
/-- The move's own speed. -/
theorem vel_ok {a n v : Nat} (ha : Mid a) (ha0 : 0 ≤ key a) (h1 : 1 ≤ n) (hn : n ≤ 4294967295) (h : Gives (double.div a (fl (n : Int))) v) : Num v ∧ 0 ≤ key v := by
  have m2 := (fl_mid (N := n) (by omega)).1
  have k2 := isW_nat (n := n) (by omega)
  have hU := U_pos
  have p2 : 0 < (n : Int) * U := Int.mul_pos (by omega) (by omega)
  obtain ⟨r1, r2⟩ := div_near ha m2 (by rw [k2]; omega) h
  refine ⟨r1, ?_⟩
  rcases Int.lt_or_le 0 (key a) with h0 | h0
  · exact (div_sign ha.1 m2.1 (by rw [k2]; exact p2) h).2 h0
  · have e : key a = 0 := by omega
    have r3 := r2.1
    rw [e, Int.natAbs_zero, Nat.zero_mul, Nat.zero_mul] at r3
    have hpp := PP_pos 2
    have : (key v).natAbs * (key (fl (n : Int))).natAbs = 0 := by
      rcases Nat.mul_eq_zero.1 (Nat.le_zero.1 r3) with c | c
      · exact c
      · omega
    rcases Nat.mul_eq_zero.1 this with c | c
    · omega
    · rw [k2] at c; omega
/-- A speed behind a move: n ticks, the squares' sum N. -/
def TrackR (N n : Nat) (old r : Nat) : Prop := ∃ a v, Gives (double.sqrt (fl (N : Int))) a ∧ Gives (double.div a (fl (n : Int))) v ∧ SpeedR n old v r
/-- .. it lies between the elder one and the move's own. -/
theorem track_between {N n old r a v : Nat} (hN : N < 2 ^ 65) (h1 : 1 ≤ n) (hn : n ≤ 4294967295) (ho : Num old) (ho0 : 0 ≤ key old) (ha : Gives (double.sqrt (fl (N : Int))) a) (hv : Gives (double.div a (fl (n : Int))) v) (h : TrackR N n old r) :
    Num r ∧ 0 ≤ key r ∧ Num v ∧ 0 ≤ key v ∧ (key v ≤ key old → key r ≤ key old) ∧ (key old ≤ key v → key r ≤ key v) := by
  obtain ⟨a', v', ha', hv', w, d, e, hw, hd, he, hr⟩ := h
  have hm := root_mid hN ha
  have hm' := root_mid hN ha'
  have ea : a = a' := by
    rcases ha.fe ha' with h | h
    · exact h
    · rw [hm.1.1.nan] at h; cases h.1
  subst ea
  have v1 := vel_ok hm.1 hm.2 h1 hn hv
  have ev : v = v' := by
    rcases hv.fe hv' with h | h
    · exact h
    · rw [v1.1.nan] at h; cases h.1
  subst ev
  have := speed_between ho ho0 v1.1 v1.2 (weight_of h1 hn hw) hd he hr
  exact ⟨this.1, this.2.1, v1.1, v1.2, this.2.2.1, this.2.2.2⟩
/-- Of one who stands still: no faster. -/
theorem track_still {n old r : Nat} (h1 : 1 ≤ n) (hn : n ≤ 4294967295) (ho : Num old) (ho0 : 0 ≤ key old) (h : TrackR 0 n old r) : Num r ∧ 0 ≤ key r ∧ key r ≤ key old := by
  obtain ⟨a, v, ha, hv, hs⟩ := h
  have := track_between (by omega) h1 hn ho ho0 ha hv ⟨a, v, ha, hv, hs⟩
  have ea : a = 0 := by
    have : double.sqrt (fl ((0 : Nat) : Int)) = some 0 := by decide
    rw [this] at ha
    exact ha
  subst ea
  have kv : key v = 0 := by
    have m2 := (fl_mid (N := n) (by omega)).1
    have k2 := isW_nat (n := n) (by omega)
    have hU := U_pos
    have p2 : 0 < (n : Int) * U := Int.mul_pos (by omega) (by omega)
    have m0 : Mid 0 := ⟨num_zero, fun h => absurd key_zero h, by rw [key_zero]; simp⟩
    have r3 := (div_near m0 m2 (by rw [k2]; omega) hv).2.1
    rw [key_zero, Int.natAbs_zero, Nat.zero_mul, Nat.zero_mul] at r3
    have hpp := PP_pos 2
    have h3 : (key v).natAbs * (key (fl (n : Int))).natAbs = 0 := by
      rcases Nat.mul_eq_zero.1 (Nat.le_zero.1 r3) with c | c
      · exact c
      · omega
    rcases Nat.mul_eq_zero.1 h3 with c | c
    · omega
    · rw [k2] at c; omega
  exact ⟨this.1, this.2.1, this.2.2.2.2.1 (by omega)⟩
theorem speedR_fe {n old v r old' v' r' : Nat} (ho : FE old old') (hv : FE v v') (h : SpeedR n old v r) (h' : SpeedR n old' v' r') : FE r r' := by
  obtain ⟨w, d, e, hw, hd, he, hr⟩ := h
  obtain ⟨w', d', e', hw', hd', he', hr'⟩ := h'
  exact add_fe ho (mul_fe (hw.fe hw') (sub_fe hv ho hd hd') he he') hr hr'
theorem trackR_fe {N n old r old' r' : Nat} (ho : FE old old') (h : TrackR N n old r) (h' : TrackR N n old' r') : FE r r' := by
  obtain ⟨a, v, ha, hv, hs⟩ := h
  obtain ⟨a', v', ha', hv', hs'⟩ := h'
  exact speedR_fe ho (div_fe (ha.fe ha') (FE.refl _) hv hv') hs hs'
end Flo
