/-
  Plainly: a heading points into the sector of the way; a quarter to the left is two sectors more.
-/
import Derived.Test.YtkbcdfniocmamaaHeaA
namespace Flo
open Ieee
theorem fl_neg {d : Int} (h0 : d ≠ 0) : fl (-d) = Flo.neg (fl d) := by
  have en : fl (-d) = double.nearest (decide (-d < 0)) d.natAbs 0 := by rw [fl_eq]; congr 1; omega
  have ep : fl d = double.nearest (decide (d < 0)) d.natAbs 0 := fl_eq d
  rw [en, ep]
  unfold Format.nearest
  simp only
  rw [if_neg (by omega), if_neg (by omega), infRung_d]
  have hc : ∀ b n q, Toward.even.cut b n q = Toward.even.cut false n q := fun _ _ _ => rfl
  rw [hc (decide (-d < 0)), hc (decide (d < 0))]
  generalize hrr : min _ (2047 * 2 ^ 52) = r
  have h1 : r ≤ 2047 * 2 ^ 52 := by rw [← hrr]; exact Nat.min_le_right _ _
  have hx1 : r ^^^ 2 ^ 63 = 2 ^ 63 + r := by
    have h3 := Nat.xor_comm r (2 ^ 63)
    rw [h3]
    refine Nat.eq_of_testBit_eq fun i => ?_
    rw [Nat.testBit_xor, Nat.testBit_two_pow]
    rcases Nat.lt_trichotomy i 63 with c | c | c
    · rw [Nat.testBit_two_pow_add_gt c, decide_eq_false (by omega), Bool.false_xor]
    · subst c
      rw [Nat.testBit_two_pow_add_eq]; simp
    · have z1 : r.testBit i = false := Nat.testBit_lt_two_pow (Nat.lt_of_lt_of_le (show r < 2 ^ 63 by omega) (Nat.pow_le_pow_right (by omega) (by omega)))
      have z2 : (2 ^ 63 + r).testBit i = false := Nat.testBit_lt_two_pow (Nat.lt_of_lt_of_le (show 2 ^ 63 + r < 2 ^ 64 by omega) (Nat.pow_le_pow_right (by omega) (by omega)))
      rw [z1, z2]; simp; omega
  unfold Flo.neg
  by_cases c : d < 0
  · rw [decide_eq_true c, decide_eq_false (by omega), word_def, word_def, if_neg (by decide), if_pos rfl, ← hx1, Nat.xor_assoc, Nat.xor_self, Nat.xor_zero]
  · rw [decide_eq_false c, decide_eq_true (by omega), word_def, word_def, if_pos rfl, if_neg (by decide), hx1]
theorem read_fl_abs {a b : Int} (h : a.natAbs = b.natAbs) {s : Bool} {m : Nat} {i : Int} (hr : double.read (fl a) = .number s m i) : ∃ t, double.read (fl b) = .number t m i := by
  have hab : b = a ∨ b = -a := by omega
  rcases hab with rfl | rfl
  · exact ⟨s, hr⟩
  · by_cases h0 : a = 0
    · subst h0; exact ⟨s, hr⟩
    · rw [fl_neg h0, read_neg, hr]
      exact ⟨!s, rfl⟩
/-- Of whole numbers far enough apart: what is near them keeps their order. -/
theorem near_order {x y X Y : Nat} (hy : y ≤ 2 ^ 33) (h : Near 4 (X * y) (x * Y)) (hxy : x < y) (hY0 : Y = 0 → y = 0) : X < Y := by
  rcases Nat.lt_or_ge X Y with c | c
  · exact c
  · exfalso
    have hX : 0 < X := by
      rcases Nat.eq_zero_or_pos X with d | d
      · have : Y = 0 := by omega
        have := hY0 this
        omega
      · exact d
    have h1 := h.1
    have hs : (2 ^ 33 + 1) * (SS ^ 4 - PP ^ 4) < PP ^ 4 := by unfold SS PP; decide
    have hp : PP ^ 4 ≤ SS ^ 4 := Nat.pow_le_pow_left (by unfold PP SS; omega) 4
    generalize SS ^ 4 = s at *
    generalize PP ^ 4 = p at *
    have a1 : X * (y * p) ≤ X * (x * s) := by
      calc X * (y * p) = X * y * p := by rw [Nat.mul_assoc]
        _ ≤ x * Y * s := h1
        _ ≤ x * X * s := Nat.mul_le_mul_right _ (Nat.mul_le_mul_left _ c)
        _ = X * (x * s) := by rw [Nat.mul_comm x X, Nat.mul_assoc]
    have a2 := Nat.le_of_mul_le_mul_left a1 hX
    have a3 : (x + 1) * p ≤ x * s := Nat.le_trans (Nat.mul_le_mul_right _ hxy) a2
    obtain ⟨d, hd⟩ : ∃ d, s = p + d := ⟨s - p, by omega⟩
    rw [hd, Nat.mul_add, Nat.add_mul, Nat.one_mul] at a3
    rw [hd, Nat.add_sub_cancel_left] at hs
    have a4 : x * d ≤ (2 ^ 33 + 1) * d := Nat.mul_le_mul_right _ (by omega)
    omega
end Flo
namespace Go.Proofs.Ytkbcdfniocmamaa
open Flo
theorem secP_like {X Y X' Y' : Int} (h1 : 0 < X ↔ 0 < X') (h2 : X < 0 ↔ X' < 0) (h3 : 0 < Y ↔ 0 < Y') (h4 : Y < 0 ↔ Y' < 0) (h5 : X.natAbs < Y.natAbs ↔ X'.natAbs < Y'.natAbs) (h6 : Y.natAbs < X.natAbs ↔ Y'.natAbs < X'.natAbs) : secP X Y = secP X' Y' := by
  unfold secP
  have c0 : (X = 0 ∧ Y = 0) ↔ (X' = 0 ∧ Y' = 0) := by omega
  have c1 : (0 < X ∧ 0 ≤ Y) ↔ (0 < X' ∧ 0 ≤ Y') := by omega
  have c2 : (0 < Y ∧ 0 ≤ -X) ↔ (0 < Y' ∧ 0 ≤ -X') := by omega
  have c3 : (0 < -X ∧ 0 ≤ -Y) ↔ (0 < -X' ∧ 0 ≤ -Y') := by omega
  by_cases k0 : X = 0 ∧ Y = 0
  · rw [if_pos k0, if_pos (c0.1 k0)]
  rw [if_neg k0, if_neg (fun c => k0 (c0.2 c))]
  by_cases k1 : 0 < X ∧ 0 ≤ Y
  · rw [if_pos k1, if_pos (c1.1 k1)]
    have := c1.1 k1
    have : X ≤ Y ↔ X' ≤ Y' := by omega
    by_cases e : X ≤ Y
    · rw [if_pos e, if_pos (this.1 e)]
    · rw [if_neg e, if_neg (fun c => e (this.2 c))]
  rw [if_neg k1, if_neg (fun c => k1 (c1.2 c))]
  by_cases k2 : 0 < Y ∧ 0 ≤ -X
  · rw [if_pos k2, if_pos (c2.1 k2)]
    have := c2.1 k2
    have : Y ≤ -X ↔ Y' ≤ -X' := by omega
    by_cases e : Y ≤ -X
    · rw [if_pos e, if_pos (this.1 e)]
    · rw [if_neg e, if_neg (fun c => e (this.2 c))]
  rw [if_neg k2, if_neg (fun c => k2 (c2.2 c))]
  by_cases k3 : 0 < -X ∧ 0 ≤ -Y
  · rw [if_pos k3, if_pos (c3.1 k3)]
    have := c3.1 k3
    have : -X ≤ -Y ↔ -X' ≤ -Y' := by omega
    by_cases e : -X ≤ -Y
    · rw [if_pos e, if_pos (this.1 e)]
    · rw [if_neg e, if_neg (fun c => e (this.2 c))]
  rw [if_neg k3, if_neg (fun c => k3 (c3.2 c))]
  have : -Y ≤ X ↔ -Y' ≤ X' := by omega
  by_cases e : -Y ≤ X
  · rw [if_pos e, if_pos (this.1 e)]
  · rw [if_neg e, if_neg (fun c => e (this.2 c))]
/-- A quarter to the left is two sectors more. -/
theorem secP_left (X Y : Int) : (secP X Y = -1 ∧ secP (-Y) X = -1) ∨ (0 ≤ secP X Y ∧ secP X Y ≤ 7 ∧ secP (-Y) X = (secP X Y + 2) % 8) := by
  unfold secP
  by_cases k0 : X = 0 ∧ Y = 0
  · rw [if_pos k0, if_pos (show -Y = 0 ∧ X = 0 by omega)]; exact .inl ⟨rfl, rfl⟩
  right
  rw [if_neg k0, if_neg (show ¬ (-Y = 0 ∧ X = 0) by omega)]
  by_cases k1 : 0 < X ∧ 0 ≤ Y
  · rw [if_pos k1, if_neg (show ¬ (0 < -Y ∧ 0 ≤ X) by omega), if_pos (show 0 < X ∧ 0 ≤ - -Y by omega), show - -Y = Y by omega]
    by_cases e : X ≤ Y
    · rw [if_pos e, if_pos e]; decide
    · rw [if_neg e, if_neg e]; decide
  rw [if_neg k1]
  by_cases k2 : 0 < Y ∧ 0 ≤ -X
  · rw [if_pos k2, if_neg (show ¬ (0 < -Y ∧ 0 ≤ X) by omega), if_neg (show ¬ (0 < X ∧ 0 ≤ - -Y) by omega), if_pos (show 0 < - -Y ∧ 0 ≤ -X by omega), show - -Y = Y by omega]
    by_cases e : Y ≤ -X
    · rw [if_pos e, if_pos e]; decide
    · rw [if_neg e, if_neg e]; decide
  rw [if_neg k2]
  by_cases k3 : 0 < -X ∧ 0 ≤ -Y
  · rw [if_pos k3, if_neg (show ¬ (0 < -Y ∧ 0 ≤ X) by omega), if_neg (show ¬ (0 < X ∧ 0 ≤ - -Y) by omega), if_neg (show ¬ (0 < - -Y ∧ 0 ≤ -X) by omega)]
    by_cases e : -X ≤ -Y
    · rw [if_pos e, if_pos e]; decide
    · rw [if_neg e, if_neg e]; decide
  rw [if_neg k3, if_pos (show 0 < -Y ∧ 0 ≤ X by omega)]
  by_cases e : -Y ≤ X
  · rw [if_pos e, if_pos e]; decide
  · rw [if_neg e, if_neg e]; decide
theorem sec_left (a b : Nat) : (sec a b = -1 ∧ sec (neg b) a = -1) ∨ (0 ≤ sec a b ∧ sec a b ≤ 7 ∧ sec (neg b) a = (sec a b + 2) % 8) := by
  unfold sec
  rw [nan_neg, key_neg]
  by_cases h : isNaN a = true ∨ isNaN b = true
  · rw [if_pos h, if_pos h.symm]; exact .inl ⟨rfl, rfl⟩
  · rw [if_neg h, if_neg (fun c => h c.symm)]
    exact secP_left _ _
theorem key_zero_of {X L x : Nat} (hL : 0 < L) (h : Near 2 (X * L) (x * U * U)) : X = 0 ↔ x = 0 := by
  have ht := (h.mono (show 2 ≤ 12 by omega)).two
  have hU := U_pos
  constructor
  · intro c
    rw [c, Nat.zero_mul] at ht
    have : x * U * U = 0 := by omega
    rcases Nat.mul_eq_zero.1 this with d | d
    · rcases Nat.mul_eq_zero.1 d with e | e
      · exact e
      · omega
    · omega
  · intro c
    rw [c, Nat.zero_mul, Nat.zero_mul] at ht
    have : X * L = 0 := by omega
    rcases Nat.mul_eq_zero.1 this with d | d
    · exact d
    · omega
theorem sign_iff {k kr m : Int} (h1 : k < 0 → kr ≤ 0) (h2 : 0 < k → 0 ≤ kr) (h3 : kr.natAbs = 0 ↔ m.natAbs = 0) (h4 : 0 < k ↔ 0 < m) (h5 : k < 0 ↔ m < 0) : (0 < kr ↔ 0 < k) ∧ (kr < 0 ↔ k < 0) := by omega
theorem ord_iff {a b A B : Nat} (o1 : a < b → A < B) (o2 : b < a → B < A) (o3 : a = b → A = B) : (A < B ↔ a < b) ∧ (B < A ↔ b < a) := by
  rcases Nat.lt_trichotomy a b with c | c | c
  · have := o1 c; omega
  · have := o3 c; omega
  · have := o2 c; omega
theorem heading_sector {m n : Int} {r i : Nat} (hm : m.natAbs ≤ 2 ^ 33) (hn : n.natAbs ≤ 2 ^ 33) (h0 : ¬ (m = 0 ∧ n = 0)) (h : HeadR m n r i) : sec r i = sec (fl m) (fl n) := by
  obtain ⟨l, l0, nl, g5, g6, nr, ni, mr, mi, hN⟩ := head_near hm hn h0 h
  have hU := U_pos
  have wm := isW_fl (n := m) (by omega)
  have wn := isW_fl (n := n) (by omega)
  have hL : 0 < (key l).natAbs := by omega
  have zr := key_zero_of hL hN.h1
  have zi := key_zero_of hL hN.h2
  have sr := div_sign wm.1 nl l0 g5
  have si := div_sign wn.1 nl l0 g6
  have sgn : ∀ k : Int, (0 < key (fl k) ↔ 0 < k) ∧ (key (fl k) < 0 ↔ k < 0) ∨ 2 ^ 53 < k.natAbs := by
    intro k
    rcases Nat.lt_or_ge (2 ^ 53) k.natAbs with c | c
    · exact .inr c
    · have w := isW_fl (n := k) c
      rw [w.2]
      have a1 := @mulU_lt 0 k
      have a2 := @mulU_lt k 0
      rw [Int.zero_mul] at a1 a2
      exact .inl ⟨a1, a2⟩
  have sm := (sgn m).resolve_right (by omega)
  have sn := (sgn n).resolve_right (by omega)
  have n4 : Near 4 ((key r).natAbs * n.natAbs) (m.natAbs * (key i).natAbs) := by
    have hUU : 0 < U * U := Nat.mul_pos hU hU
    refine Near.cancel (k := (key l).natAbs * (U * U)) (Nat.mul_pos hL hUU) ?_
    have := hN.h1.mul hN.h2.symm
    rw [Nat.mul_assoc n.natAbs U U, Nat.mul_assoc m.natAbs U U, Nat.mul_mul_mul_comm, Nat.mul_mul_mul_comm m.natAbs, Nat.mul_comm (U * U)] at this
    exact this
  have n4' : Near 4 ((key i).natAbs * m.natAbs) (n.natAbs * (key r).natAbs) := by
    have := n4.symm
    rw [Nat.mul_comm m.natAbs, Nat.mul_comm _ n.natAbs] at this
    exact this
  have o1 : m.natAbs < n.natAbs → (key r).natAbs < (key i).natAbs := fun c => near_order hn n4 c zi.1
  have o2 : n.natAbs < m.natAbs → (key i).natAbs < (key r).natAbs := fun c => near_order hm n4' c zr.1
  have o3 : m.natAbs = n.natAbs → (key r).natAbs = (key i).natAbs := fun c => by
    obtain ⟨s, mm, j, rm⟩ := wm.1
    obtain ⟨t, rn⟩ := read_fl_abs c rm
    exact div_same rm rn nl (by omega) g5 g6
  have km : (key (fl m)).natAbs = m.natAbs * U := by rw [wm.2, mul_U_abs]
  have kn : (key (fl n)).natAbs = n.natAbs * U := by rw [wn.2, mul_U_abs]
  have om : ∀ a b : Nat, a * U < b * U ↔ a < b := fun a b => ⟨fun c => Nat.lt_of_mul_lt_mul_right c, fun c => Nat.mul_lt_mul_of_pos_right c hU⟩
  unfold sec
  rw [if_neg (by rw [nr.nan, ni.nan]; simp), if_neg (by rw [wm.1.nan, wn.1.nan]; simp)]
  have g1 := sign_iff sr.1 sr.2 zr sm.1 sm.2
  have g2 := sign_iff si.1 si.2 zi sn.1 sn.2
  have g3 := ord_iff o1 o2 o3
  exact secP_like g1.1 g1.2 g2.1 g2.2 (by rw [km, kn, om]; exact g3.1) (by rw [km, kn, om]; exact g3.2)
end Go.Proofs.Ytkbcdfniocmamaa
