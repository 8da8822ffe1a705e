/-
  The document's Nearest, by contract.
-/
import Derived.Test.YtkbcdfniocmamaaMapP
namespace Go.Proofs.Ytkbcdfniocmamaa
open Go.RowKit Flo
set_option linter.unusedVariables false

theorem odd_iff (n : Int) : (n % 2 = 0) ↔ n.tmod 2 = 0 := by
  rcases Int.lt_or_le n 0 with h | h
  · have e : n = - (-n) := by omega
    rw [e, Int.neg_tmod, Int.tmod_eq_emod_of_nonneg (by omega)]
    omega
  · rw [Int.tmod_eq_emod_of_nonneg h]
theorem refNear_up (w : World) (x : Nat) (n : Int) (hn : -4503599627370496 ≤ n ∧ n ≤ 4503599627370496) (b1 b2 : Bool) (b3 : Int) (hb3 : n.tmod 2 = b3) (hu : b1 = true ∨ (b2 = true ∧ b3 ≠ 0)) (N1 : ∀ w, Calls Try.prog 73 #[.float .f64 x] w fun e w' => e = .returned (.bool false) ∧ w = w') (N2 : ∀ w, Calls Try.prog 74 #[.float .f64 x] w fun e w' => e = .returned (.bool false) ∧ w = w') (N3 : ∀ w, Calls Try.prog 75 #[.float .f64 x] w fun e w' => e = .returned (.int .i64 n) ∧ w = w')
    (h1 : fgt (subV w x (floatOfInt .f64 n)) 4602678819172646912 = b1) (h2 : feq (subV w x (floatOfInt .f64 n)) 4602678819172646912 = b2) (E : (nearE x = if n + 1 < -1073741823 ∨ 1073741823 < n + 1 then 21 else 0) ∧ (nearV x = if n + 1 < -1073741823 ∨ 1073741823 < n + 1 then 0 else n + 1)) : Calls Try.prog 67 #[.float .f64 x] w (NearOut x w) := by
  have M1 := Lib.hid N1
  have M2 := Lib.hid N2
  have M3 := Lib.hid N3
  have EH := Lib.hid E
  have HU := Lib.hid hu
  have e1 : wrap64 (n + 1) = n + 1 := IntWalk.wrap64_in _ (by omega)
  have e4 : IntKind.i64.wrap b3 = b3 := by
    have := Int.tmod_lt_of_pos n (b := 2) (by omega)
    have := Int.lt_tmod_of_pos n (b := 2) (by omega)
    rw [IntKind.wrap_i64]; omega
  clear N1 N2 N3 E hu
  by_cases g1 : n + 1 < -1073741823
  · have EV : nearE x = 21 ∧ nearV x = 0 := by rw [EH.out.1, EH.out.2, if_pos (.inl g1), if_pos (.inl g1)]; exact ⟨rfl, rfl⟩
    have EV := Lib.hid EV
    clear hn
    go_enter Try.func67, Try.ntmps67
    cases b1 with
    | true =>
      go_wp2_with (first
      | (go_at_call 73; refine (M1.out _).mono ?_; rintro e w9 ⟨rfl, rfl⟩)
      | (go_at_call 74; refine (M2.out _).mono ?_; rintro e w9 ⟨rfl, rfl⟩)
      | (go_at_call 75; refine (M3.out _).mono ?_; rintro e w9 ⟨rfl, rfl⟩))
      go_ret2
      exact ⟨by rw [EV.out.1, EV.out.2]; rfl, (Fr.refl [] w).subW _ _⟩
    | false =>
      have hb2 : b2 = true := by have := HU.out; simp at this; exact this.1
      have hb4 : b3 ≠ 0 := by have := HU.out; simp at this; exact this.2
      subst hb2
      go_wp2_with (first
      | (go_at_call 73; refine (M1.out _).mono ?_; rintro e w9 ⟨rfl, rfl⟩)
      | (go_at_call 74; refine (M2.out _).mono ?_; rintro e w9 ⟨rfl, rfl⟩)
      | (go_at_call 75; refine (M3.out _).mono ?_; rintro e w9 ⟨rfl, rfl⟩))
      go_ret2
      exact ⟨by rw [EV.out.1, EV.out.2]; rfl, (Fr.refl [] w).subW _ _⟩
  · by_cases g2 : 1073741823 < n + 1
    · have EV : nearE x = 21 ∧ nearV x = 0 := by rw [EH.out.1, EH.out.2, if_pos (.inr g2), if_pos (.inr g2)]; exact ⟨rfl, rfl⟩
      have EV := Lib.hid EV
      clear hn
      go_enter Try.func67, Try.ntmps67
      cases b1 with
      | true =>
        go_wp2_with (first
      | (go_at_call 73; refine (M1.out _).mono ?_; rintro e w9 ⟨rfl, rfl⟩)
      | (go_at_call 74; refine (M2.out _).mono ?_; rintro e w9 ⟨rfl, rfl⟩)
      | (go_at_call 75; refine (M3.out _).mono ?_; rintro e w9 ⟨rfl, rfl⟩))
        go_ret2
        exact ⟨by rw [EV.out.1, EV.out.2]; rfl, (Fr.refl [] w).subW _ _⟩
      | false =>
        have hb2 : b2 = true := by have := HU.out; simp at this; exact this.1
        have hb4 : b3 ≠ 0 := by have := HU.out; simp at this; exact this.2
        subst hb2
        go_wp2_with (first
      | (go_at_call 73; refine (M1.out _).mono ?_; rintro e w9 ⟨rfl, rfl⟩)
      | (go_at_call 74; refine (M2.out _).mono ?_; rintro e w9 ⟨rfl, rfl⟩)
      | (go_at_call 75; refine (M3.out _).mono ?_; rintro e w9 ⟨rfl, rfl⟩))
        go_ret2
        exact ⟨by rw [EV.out.1, EV.out.2]; rfl, (Fr.refl [] w).subW _ _⟩
    · have EV : nearE x = 0 ∧ nearV x = n + 1 := by rw [EH.out.1, EH.out.2, if_neg (by omega), if_neg (by omega)]; exact ⟨rfl, rfl⟩
      have EV := Lib.hid EV
      have e2 : wrap32 (n + 1) = n + 1 := IntWalk.wrap32_in _ (by omega)
      clear hn
      go_enter Try.func67, Try.ntmps67
      cases b1 with
      | true =>
        go_wp2_with (first
      | (go_at_call 73; refine (M1.out _).mono ?_; rintro e w9 ⟨rfl, rfl⟩)
      | (go_at_call 74; refine (M2.out _).mono ?_; rintro e w9 ⟨rfl, rfl⟩)
      | (go_at_call 75; refine (M3.out _).mono ?_; rintro e w9 ⟨rfl, rfl⟩))
        go_ret2
        exact ⟨by rw [EV.out.1, EV.out.2]; rfl, (Fr.refl [] w).subW _ _⟩
      | false =>
        have hb2 : b2 = true := by have := HU.out; simp at this; exact this.1
        have hb4 : b3 ≠ 0 := by have := HU.out; simp at this; exact this.2
        subst hb2
        go_wp2_with (first
      | (go_at_call 73; refine (M1.out _).mono ?_; rintro e w9 ⟨rfl, rfl⟩)
      | (go_at_call 74; refine (M2.out _).mono ?_; rintro e w9 ⟨rfl, rfl⟩)
      | (go_at_call 75; refine (M3.out _).mono ?_; rintro e w9 ⟨rfl, rfl⟩))
        go_ret2
        exact ⟨by rw [EV.out.1, EV.out.2]; rfl, (Fr.refl [] w).subW _ _⟩
theorem refNear_down (w : World) (x : Nat) (n : Int) (hn : -4503599627370496 ≤ n ∧ n ≤ 4503599627370496) (b1 b2 : Bool) (b3 : Int) (hb3 : n.tmod 2 = b3) (hu : b1 = false ∧ (b2 = false ∨ b3 = 0)) (N1 : ∀ w, Calls Try.prog 73 #[.float .f64 x] w fun e w' => e = .returned (.bool false) ∧ w = w') (N2 : ∀ w, Calls Try.prog 74 #[.float .f64 x] w fun e w' => e = .returned (.bool false) ∧ w = w') (N3 : ∀ w, Calls Try.prog 75 #[.float .f64 x] w fun e w' => e = .returned (.int .i64 n) ∧ w = w')
    (h1 : fgt (subV w x (floatOfInt .f64 n)) 4602678819172646912 = b1) (h2 : feq (subV w x (floatOfInt .f64 n)) 4602678819172646912 = b2) (E : (nearE x = if n < -1073741823 ∨ 1073741823 < n then 21 else 0) ∧ (nearV x = if n < -1073741823 ∨ 1073741823 < n then 0 else n)) : Calls Try.prog 67 #[.float .f64 x] w (NearOut x w) := by
  have M1 := Lib.hid N1
  have M2 := Lib.hid N2
  have M3 := Lib.hid N3
  have EH := Lib.hid E
  have HU := Lib.hid hu
  have e1 : wrap64 (n + 1) = n + 1 := IntWalk.wrap64_in _ (by omega)
  have e4 : IntKind.i64.wrap b3 = b3 := by
    have := Int.tmod_lt_of_pos n (b := 2) (by omega)
    have := Int.lt_tmod_of_pos n (b := 2) (by omega)
    rw [IntKind.wrap_i64]; omega
  clear N1 N2 N3 E hu
  by_cases g1 : n < -1073741823
  · have EV : nearE x = 21 ∧ nearV x = 0 := by rw [EH.out.1, EH.out.2, if_pos (.inl g1), if_pos (.inl g1)]; exact ⟨rfl, rfl⟩
    have EV := Lib.hid EV
    clear hn
    go_enter Try.func67, Try.ntmps67
    obtain rfl : b1 = false := HU.out.1
    cases b2 with
    | false =>
      go_wp2_with (first
      | (go_at_call 73; refine (M1.out _).mono ?_; rintro e w9 ⟨rfl, rfl⟩)
      | (go_at_call 74; refine (M2.out _).mono ?_; rintro e w9 ⟨rfl, rfl⟩)
      | (go_at_call 75; refine (M3.out _).mono ?_; rintro e w9 ⟨rfl, rfl⟩))
      go_ret2
      exact ⟨by rw [EV.out.1, EV.out.2]; rfl, (Fr.refl [] w).subW _ _⟩
    | true =>
      have hb4 : b3 = 0 := by have := HU.out.2; simp at this; exact this
      go_wp2_with (first
      | (go_at_call 73; refine (M1.out _).mono ?_; rintro e w9 ⟨rfl, rfl⟩)
      | (go_at_call 74; refine (M2.out _).mono ?_; rintro e w9 ⟨rfl, rfl⟩)
      | (go_at_call 75; refine (M3.out _).mono ?_; rintro e w9 ⟨rfl, rfl⟩))
      go_ret2
      exact ⟨by rw [EV.out.1, EV.out.2]; rfl, (Fr.refl [] w).subW _ _⟩
  · by_cases g2 : 1073741823 < n
    · have EV : nearE x = 21 ∧ nearV x = 0 := by rw [EH.out.1, EH.out.2, if_pos (.inr g2), if_pos (.inr g2)]; exact ⟨rfl, rfl⟩
      have EV := Lib.hid EV
      clear hn
      go_enter Try.func67, Try.ntmps67
      obtain rfl : b1 = false := HU.out.1
      cases b2 with
      | false =>
        go_wp2_with (first
      | (go_at_call 73; refine (M1.out _).mono ?_; rintro e w9 ⟨rfl, rfl⟩)
      | (go_at_call 74; refine (M2.out _).mono ?_; rintro e w9 ⟨rfl, rfl⟩)
      | (go_at_call 75; refine (M3.out _).mono ?_; rintro e w9 ⟨rfl, rfl⟩))
        go_ret2
        exact ⟨by rw [EV.out.1, EV.out.2]; rfl, (Fr.refl [] w).subW _ _⟩
      | true =>
        have hb4 : b3 = 0 := by have := HU.out.2; simp at this; exact this
        go_wp2_with (first
      | (go_at_call 73; refine (M1.out _).mono ?_; rintro e w9 ⟨rfl, rfl⟩)
      | (go_at_call 74; refine (M2.out _).mono ?_; rintro e w9 ⟨rfl, rfl⟩)
      | (go_at_call 75; refine (M3.out _).mono ?_; rintro e w9 ⟨rfl, rfl⟩))
        go_ret2
        exact ⟨by rw [EV.out.1, EV.out.2]; rfl, (Fr.refl [] w).subW _ _⟩
    · have EV : nearE x = 0 ∧ nearV x = n := by rw [EH.out.1, EH.out.2, if_neg (by omega), if_neg (by omega)]; exact ⟨rfl, rfl⟩
      have EV := Lib.hid EV
      have e2 : wrap32 (n) = n := IntWalk.wrap32_in _ (by omega)
      clear hn
      go_enter Try.func67, Try.ntmps67
      obtain rfl : b1 = false := HU.out.1
      cases b2 with
      | false =>
        go_wp2_with (first
      | (go_at_call 73; refine (M1.out _).mono ?_; rintro e w9 ⟨rfl, rfl⟩)
      | (go_at_call 74; refine (M2.out _).mono ?_; rintro e w9 ⟨rfl, rfl⟩)
      | (go_at_call 75; refine (M3.out _).mono ?_; rintro e w9 ⟨rfl, rfl⟩))
        go_ret2
        exact ⟨by rw [EV.out.1, EV.out.2]; rfl, (Fr.refl [] w).subW _ _⟩
      | true =>
        have hb4 : b3 = 0 := by have := HU.out.2; simp at this; exact this
        go_wp2_with (first
      | (go_at_call 73; refine (M1.out _).mono ?_; rintro e w9 ⟨rfl, rfl⟩)
      | (go_at_call 74; refine (M2.out _).mono ?_; rintro e w9 ⟨rfl, rfl⟩)
      | (go_at_call 75; refine (M3.out _).mono ?_; rintro e w9 ⟨rfl, rfl⟩))
        go_ret2
        exact ⟨by rw [EV.out.1, EV.out.2]; rfl, (Fr.refl [] w).subW _ _⟩
theorem refNear_any (w : World) (x : Nat) : Calls Try.prog 67 #[.float .f64 x] w (NearOut x w) := by
  cases hx : isNaN x with
  | true => exact refNear_nan w x hx
  | false =>
    cases hh : hugeB x with
    | true => exact refNear_far w x hx hh
    | false =>
      have N1 : ∀ w, Calls Try.prog 73 #[.float .f64 x] w fun e w' => e = .returned (.bool false) ∧ w = w' := fun w => by
        have := refNaN_any w x
        rw [feq_self, hx] at this
        exact this
      have N2 : ∀ w, Calls Try.prog 74 #[.float .f64 x] w fun e w' => e = .returned (.bool false) ∧ w = w' := fun w => by
        have := huge_any w x
        rw [hh] at this
        exact this
      have N3 := fun w => down_any w x hx hh
      have R := rest_re w hx hh (n := downN x) rfl
      have ho := odd_iff (downN x)
      simp only at R
      cases hu : upB (subV w x (floatOfInt .f64 (downN x))) (downN x) with
      | true =>
        refine refNear_up w x (downN x) (down_small hx hh) _ _ _ rfl ?_ N1 N2 N3 rfl rfl (R.1 hu)
        unfold upB at hu
        simp only [Bool.or_eq_true, Bool.and_eq_true, decide_eq_true_eq] at hu
        rcases hu with hu | hu
        · exact .inl hu
        · exact .inr ⟨hu.1, fun h => hu.2 (ho.2 h)⟩
      | false =>
        refine refNear_down w x (downN x) (down_small hx hh) _ _ _ rfl ?_ N1 N2 N3 rfl rfl (R.2 hu)
        unfold upB at hu
        simp only [Bool.or_eq_false_iff, Bool.and_eq_false_iff, decide_eq_false_iff_not] at hu
        refine ⟨hu.1, ?_⟩
        rcases hu.2 with h | h
        · exact .inl h
        · exact .inr (ho.1 (by omega))
end Go.Proofs.Ytkbcdfniocmamaa
