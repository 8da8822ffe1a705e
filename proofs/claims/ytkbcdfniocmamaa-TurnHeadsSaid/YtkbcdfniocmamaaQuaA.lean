/-
  Plainly: quarters and whole ways are undone exactly, and found again by two points.
-/
import Derived.Test.YtkbcdfniocmamaaMapZ
import Derived.Test.YtkbcdfniocmamaaMapY
import Derived.Test.YtkbcdfniocmamaaMapT
import Derived.Test.YtkbcdfniocmamaaFloR
namespace Flo
open Ieee
def kTop : Nat := 2045
theorem finB_num {x : Nat} (h : Num x) : finB x = true := by
  rw [finB_iff h.nan]
  obtain ⟨s, m, e, h⟩ := h
  obtain ⟨h1, h2, h3⟩ := read_num h
  have ka := key_abs h
  have km : key maxF = (((2 ^ 53 - 1) * 2 ^ kTop : Nat) : Int) := by
    unfold key
    rw [read_maxF, key_num, signed_eq, if_neg (by decide), Int.one_mul, show ((971 : Int) + 1074).toNat = kTop from rfl]
  have h4 : m * 2 ^ (e + 1074).toNat ≤ (2 ^ 53 - 1) * 2 ^ kTop := Nat.mul_le_mul (by omega) (Nat.pow_le_pow_right (by omega) h3)
  rw [km]
  generalize (2 ^ 53 - 1) * 2 ^ kTop = M at *
  refine decide_eq_true ?_
  omega
/-- The other sign: the opposite. -/
theorem nearest_opp (m : Nat) (e : Int) : key (double.nearest true m e) = - key (double.nearest false m e) := by
  unfold Format.nearest
  simp only
  split
  · rw [(key_word true 0 (by omega)).2, (key_word false 0 (by omega)).2]; simp
  · rw [infRung_d]
    have hc : ∀ n q, Toward.even.cut true n q = Toward.even.cut false n q := fun _ _ => rfl
    rw [hc]
    generalize hr : min _ (2047 * 2 ^ 52) = r
    have h1 : r ≤ 2047 * 2 ^ 52 := by rw [← hr]; exact Nat.min_le_right _ _
    rcases Nat.lt_or_eq_of_le h1 with h2 | h2
    · rw [(key_word true r h2).2, (key_word false r h2).2]; simp
    · rw [h2, (key_word_inf true).2, (key_word_inf false).2]; simp
theorem nearest_sign (s : Bool) (m : Nat) (e : Int) : key (double.nearest s m e) = (if s then -1 else 1) * key (double.nearest false m e) := by
  cases s
  · simp
  · rw [nearest_opp]; simp
theorem num_key {x : Nat} (h : Num x) : -inf < key x ∧ key x < inf := by
  have hn := h.nan
  obtain ⟨s, m, e, h⟩ := h
  have := dkey_bd (s := s) (m := m) (e := e) (by have := read_ok x hn; rwa [h] at this)
  unfold key
  rw [h]
  exact this
theorem num_of {x : Nat} (h : isNaN x = false) {K : Int} (hk : -inf < K ∧ K < inf) {a : Int} (ha : a = 1 ∨ a = 0 ∨ a = -1) (he : key x = a * K) : Num x := by
  have hp := inf_pos
  refine num_of_key h ?_ ?_
  · rw [he]; rcases ha with rfl | rfl | rfl <;> omega
  · rw [he]; rcases ha with rfl | rfl | rfl <;> omega
/-- A square of a whole number: a number, above nought. -/
theorem sq_num {d : Int} (hd : d.natAbs ≤ 2 ^ 33) (h0 : d ≠ 0) {r : Nat} (h : Gives (double.mul (fl d) (fl d)) r) : Num r ∧ 0 < key r := by
  have hw := isW_fl (n := d) (by omega)
  obtain ⟨s, m, e, hr⟩ := hw.1
  have hp := whole_place hw h0 hr
  have hu := mul_units hr hr (by omega)
  have hm : m * m ≠ 0 := Nat.mul_ne_zero hp.2 hp.2
  rw [mul_form hr hr h, Bool.xor_self]
  have hU := U_pos
  have hV : m * m * 2 ^ (e + e + 1074).toNat = d.natAbs * d.natAbs * U := by
    refine Nat.eq_of_mul_eq_mul_right hU ?_
    rw [hu, hw.2, mul_U_abs, ← Nat.mul_assoc, Nat.mul_right_comm d.natAbs U]
  obtain ⟨V, hVd⟩ : ∃ V, V = m * m * 2 ^ (e + e + 1074).toNat := ⟨_, rfl⟩
  have hVn : V ≠ 0 := by rw [hVd]; exact Nat.mul_ne_zero hm (Nat.ne_of_gt (Nat.two_pow_pos _))
  have hdd : d.natAbs * d.natAbs ≤ 2 ^ 33 * 2 ^ 33 := Nat.mul_le_mul hd hd
  have hVb : V < 2 ^ 67 * U := by
    rw [hVd, hV]
    exact Nat.mul_lt_mul_of_pos_right (by omega) hU
  have hl : V.log2 ≤ 2096 := by
    have : V.log2 < 67 + uExp := by
      rw [Nat.log2_lt hVn, Nat.pow_add, show 2 ^ uExp = U from rfl]
      exact hVb
    unfold uExp at this
    omega
  obtain ⟨K, k1, k2, k3, k4, k5, k6⟩ := round_spec false (m * m) (e + e) (by omega) hm V hVd hl
  have hq : 2 ^ (V.log2 - 52) ≤ V := Nat.le_trans (Nat.pow_le_pow_right (by omega) (by omega)) (Nat.log2_self_le hVn)
  have hpos := Nat.two_pow_pos (V.log2 - 52)
  have hK : 0 < K * 2 ^ (V.log2 - 52) := by
    rcases Nat.eq_zero_or_pos (V.log2 - 52) with c | c
    · rw [k6 (by omega), c]; omega
    · have := k3 c
      exact Nat.mul_pos (by omega) hpos
  have hn : isNaN (double.nearest false (m * m) (e + e)) = false := nan_nearest _ _ _
  have hlt := U_lt_inf (n := 2 * 2 ^ 67) (Nat.le_trans (show 2 * 2 ^ 67 ≤ 2 ^ 68 by omega) (Nat.pow_le_pow_right (by omega) (by unfold wExp; omega)))
  rw [Nat.mul_assoc] at hlt
  generalize 2 ^ 67 * U = UU at *
  generalize K * 2 ^ (V.log2 - 52) = T at *
  generalize 2 ^ (V.log2 - 52) = Q at *
  have hTb : T ≤ 2 * V := by omega
  have hk : key (double.nearest false (m * m) (e + e)) = (T : Int) := by rw [k1]; simp
  refine ⟨num_of_key hn ?_ ?_, ?_⟩
  · rw [hk]; omega
  · rw [hk]; omega
  · rw [hk]; omega
/-- A number times a whole one, to a sign. -/
theorem sq_pm {d a : Int} (hd : d.natAbs ≤ 2 ^ 33) (h0 : d ≠ 0) (ha : a = 1 ∨ a = 0 ∨ a = -1) {p r : Nat} (hp : Gives (double.mul (fl d) (fl d)) p) (h : Gives (double.mul (fl (a * d)) (fl d)) r) : Num r ∧ key r = a * key p := by
  have hsq := sq_num hd h0 hp
  have hw := isW_fl (n := d) (by omega)
  have hw2 := isW_fl (n := a * d) (by rcases ha with rfl | rfl | rfl <;> omega)
  obtain ⟨s, m, e, hr⟩ := hw.1
  rcases ha with rfl | rfl | rfl
  · rw [Int.one_mul] at h
    have e1 := mul_form hr hr hp
    have e2 := mul_form hr hr h
    rw [e2, ← e1]
    exact ⟨hsq.1, by omega⟩
  · have := mul_zero_any hw2.1 hw.1 (.inl (by rw [hw2.2]; simp)) h
    rw [this.2]
    exact ⟨num_of this.1 (num_key hsq.1) (.inr (.inl rfl)) (by rw [this.2]; omega), by omega⟩
  · have en : fl (-1 * d) = double.nearest (decide (-1 * d < 0)) d.natAbs 0 := by rw [fl_eq]; congr 1; omega
    have ep : fl d = double.nearest (decide (d < 0)) d.natAbs 0 := fl_eq d
    obtain ⟨s2, m2, e2, hr2⟩ := hw2.1
    have sm : double.read (fl (-1 * d)) = .number (!s) m e := by
      have hneg : fl (-1 * d) = Flo.neg (fl d) := by
        rw [en, ep]
        unfold Format.nearest
        simp only
        rw [if_neg (by omega), if_neg (by omega), infRung_d]
        have hc : ∀ b n q, Toward.even.cut b n q = Toward.even.cut false n q := fun _ _ _ => rfl
        rw [hc (decide (-1 * d < 0)), hc (decide (d < 0))]
        generalize hrr : min _ (2047 * 2 ^ 52) = r
        have h1 : r ≤ 2047 * 2 ^ 52 := by rw [← hrr]; exact Nat.min_le_right _ _
        have hx1 : r ^^^ 2 ^ 63 = 2 ^ 63 + r := by
          have := Nat.two_pow_add_eq_or_of_lt (i := 63) (b := r) (by omega) 1
          have h3 := Nat.xor_comm r (2 ^ 63)
          rw [h3]
          refine Nat.eq_of_testBit_eq fun i => ?_
          rw [Nat.testBit_xor, Nat.testBit_two_pow]
          rcases Nat.lt_trichotomy i 63 with c | c | c
          · rw [Nat.testBit_two_pow_add_gt c, decide_eq_false (by omega), Bool.false_xor]
          · subst c
            rw [Nat.testBit_two_pow_add_eq]; simp
          · have z1 : r.testBit i = false := Nat.testBit_lt_two_pow (Nat.lt_of_lt_of_le (show r < 2 ^ 63 by omega) (Nat.pow_le_pow_right (by omega) (by omega)))
            have z2 : (2 ^ 63 + r).testBit i = false := Nat.testBit_lt_two_pow (Nat.lt_of_lt_of_le (show 2 ^ 63 + r < 2 ^ 64 by omega) (Nat.pow_le_pow_right (by omega) (by omega)))
            rw [z1, z2]; simp; omega
        unfold Flo.neg
        by_cases c : d < 0
        · rw [decide_eq_true c, decide_eq_false (by omega), word_def, word_def, if_neg (by decide), if_pos rfl, ← hx1, Nat.xor_assoc, Nat.xor_self, Nat.xor_zero]
        · rw [decide_eq_false c, decide_eq_true (by omega), word_def, word_def, if_pos rfl, if_neg (by decide), hx1]
      rw [hneg, read_neg, hr]
      rfl
    have e1 := mul_form hr hr hp
    have e3 := mul_form sm hr h
    have kk : key r = -1 * key p := by
      rw [e3, e1, show ((!s) ^^ s) = true by cases s <;> rfl, Bool.xor_self, nearest_opp]
      omega
    exact ⟨num_of (by rw [e3]; exact nan_nearest _ _ _) (num_key hsq.1) (.inr (.inr rfl)) kk, kk⟩
/-- A number and nought. -/
theorem add_nought {x y r : Nat} (hx : Num x) (hy : Num y) (h0 : key y = 0) (h : Gives (double.add x y) r) : Num r ∧ key r = key x := by
  have := add_exact hx hy h (by rw [h0, Int.add_zero]; exact hx.rep)
  rw [h0, Int.add_zero] at this
  exact ⟨num_of_key this.1 (by rw [this.2]; exact (num_key hx).1) (by rw [this.2]; exact (num_key hx).2), this.2⟩
theorem nought_add {x y r : Nat} (hx : Num x) (hy : Num y) (h0 : key x = 0) (h : Gives (double.add x y) r) : Num r ∧ key r = key y := by
  have := add_exact hx hy h (by rw [h0, Int.zero_add]; exact hy.rep)
  rw [h0, Int.zero_add] at this
  exact ⟨num_of_key this.1 (by rw [this.2]; exact (num_key hy).1) (by rw [this.2]; exact (num_key hy).2), this.2⟩
theorem sub_nought {x y r : Nat} (hx : Num x) (hy : Num y) (h0 : key y = 0) (h : Gives (double.sub x y) r) : Num r ∧ key r = key x := by
  have := sub_exact hx hy h (by rw [h0, Int.sub_zero]; exact hx.rep)
  rw [h0, Int.sub_zero] at this
  exact ⟨num_of_key this.1 (by rw [this.2]; exact (num_key hx).1) (by rw [this.2]; exact (num_key hx).2), this.2⟩
theorem nought_sub {x y r : Nat} (hx : Num x) (hy : Num y) (h0 : key x = 0) (h : Gives (double.sub x y) r) : Num r ∧ key r = - key y := by
  have := sub_exact hx hy h (by rw [h0, Int.zero_sub, Int.natAbs_neg]; exact hy.rep)
  rw [h0, Int.zero_sub] at this
  have k := num_key hy
  exact ⟨num_of_key this.1 (by rw [this.2]; omega) (by rw [this.2]; omega), this.2⟩
theorem mul_fl_zero {x r : Nat} (hx : Num x) (h : Gives (double.mul x (fl 0)) r) : Num r ∧ key r = 0 := by
  have h0 : fl 0 = 0 := by kernel_rfl
  rw [h0] at h
  have := mul_zero_any hx num_zero (.inr key_zero) h
  have hp := inf_pos
  exact ⟨num_of_key this.1 (by rw [this.2]; omega) (by rw [this.2]; omega), this.2⟩
end Flo
