/-
  finite, IsInf, IsNaN, Abs by contracts.
-/
import Derived.Test.YtkbcdfniocmamaaFloX
import Derived.Laws.BitsAllLaws
import Derived.Deep.RegionHeld3
namespace Go.Proofs.Ytkbcdfniocmamaa
open Go.RowKit Flo
set_option linter.unusedVariables false

theorem refFinite_any (w : World) (a b : Nat) : Calls Try.prog 51 #[.agg #[.float .f64 a, .float .f64 b]] w fun e w' => e = .returned (.bool (finB a && finB b)) ∧ Fr [] w w' := by
  have F := Lib.hid ((Fr.refl [] w).alloc (.cells #[.float .f64 a, .float .f64 b] 33))
  have H1 := Lib.hid (fun w => refFin_any w a)
  have H2 := Lib.hid (fun w => refFin_any w b)
  generalize finB a = b1 at *
  generalize finB b = b2 at *
  go_enter Try.func51, Try.ntmps51
  cases b1 with
  | false =>
    go_wp2_with fail
    (with_reducible refine (H1.out _).mono ?_)
    rintro e w1 ⟨rfl, rfl⟩
    go_wp2_with fail
    go_ret
    exact ⟨rfl, F.out⟩
  | true =>
    go_wp2_with fail
    (with_reducible refine (H1.out _).mono ?_)
    rintro e w1 ⟨rfl, rfl⟩
    go_wp2_with fail
    (with_reducible refine (H2.out _).mono ?_)
    rintro e w1 ⟨rfl, rfl⟩
    go_wp2_with fail
    go_ret
    exact ⟨rfl, F.out⟩
theorem isNaN_any (w : World) (x : Nat) : Calls Try.prog 70 #[.float .f64 x] w fun e w' => e = .returned (.bool (!feq x x)) ∧ w = w' := by
  go_enter Try.func70, Try.ntmps70
  go_wp2
  go_ret
  exact ⟨rfl, rfl⟩
@[go_sem] theorem ext65 (w : World) (x : Nat) : (callFunc 65 #[.float .f64 x]).run Try.prog w = .ok (.value (.int .u64 x)) w := by kernel_rfl
@[go_sem] theorem ext39 (w : World) (n : Int) : (callFunc 39 #[.int .u64 n]).run Try.prog w = .ok (.value (.float .f64 n.toNat)) w := by kernel_rfl
theorem abs_bits (x : Nat) (hx : x < 2 ^ 64) : (bits .andNot .u64 (x : Int) 9223372036854775808).toNat = x % 2 ^ 63 := by
  rw [show (9223372036854775808 : Int) = ((9223372036854775808 : Nat) : Int) by rfl, u64_andNot_nat x 9223372036854775808 (by omega) (by omega), Int.toNat_natCast,
    show 18446744073709551615 - 9223372036854775808 = 2 ^ 63 - 1 by decide]
  exact Nat.and_two_pow_sub_one_eq_mod x 63
theorem abs_any (w : World) (x : Nat) (hx : x < 2 ^ 64) : Calls Try.prog 35 #[.float .f64 x] w fun e w' => e = .returned (.float .f64 (x % 2 ^ 63)) ∧ w = w' := by
  have H := Lib.hid (abs_bits x hx)
  clear hx
  go_enter Try.func35, Try.ntmps35
  go_wp2
  go_ret
  exact ⟨by rw [← H.out]; rfl, rfl⟩
theorem isInf_any (w : World) (x : Nat) (hx : x < 2 ^ 64) : Calls Try.prog 47 #[.float .f64 x, .int .i64 0] w fun e w' => e = .returned (.bool (infB x)) ∧ w = w' := by
  have H := Lib.hid (fun w => abs_any w x hx)
  clear hx
  go_enter Try.func47, Try.ntmps47
  go_wp2_with (go_at_call 35; refine (H.out _).mono ?_; rintro e w9 ⟨rfl, rfl⟩)
  go_ret
  exact ⟨rfl, rfl⟩
theorem finite_any (w : World) (a b : Nat) (ha : a < 2 ^ 64) (hb : b < 2 ^ 64) : Calls Try.prog 46 #[.complex .f64 a b] w fun e w' => e = .returned (.bool (finB a && finB b)) ∧ w = w' := by
  have H1 := Lib.hid (fun w => isInf_any w a ha)
  have H2 := Lib.hid (fun w => isInf_any w b hb)
  have N1 := Lib.hid (fun w => isNaN_any w a)
  have N2 := Lib.hid (fun w => isNaN_any w b)
  have E1 := fin_turn a
  have E2 := fin_turn b
  rw [← E1, ← E2]
  clear E1 E2 ha hb
  generalize feq a a = n1 at *
  generalize feq b b = n2 at *
  generalize infB a = i1 at *
  generalize infB b = i2 at *
  go_enter Try.func46, Try.ntmps46
  cases n1 <;> cases i1 <;> cases n2 <;> cases i2
  all_goals
    go_wp2_with (first
      | (go_at_call 56; refine (re_any _ _ _).mono ?_; rintro e w9 ⟨rfl, rfl⟩)
      | (go_at_call_of 70 (Value.float FloatKind.f64 a); refine (N1.out _).mono ?_; rintro e w9 ⟨rfl, rfl⟩)
      | (go_at_call_of 70 (Value.float FloatKind.f64 b); refine (N2.out _).mono ?_; rintro e w9 ⟨rfl, rfl⟩)
      | (go_at_call_of 47 (Value.float FloatKind.f64 a); refine (H1.out _).mono ?_; rintro e w9 ⟨rfl, rfl⟩)
      | (go_at_call_of 47 (Value.float FloatKind.f64 b); refine (H2.out _).mono ?_; rintro e w9 ⟨rfl, rfl⟩))
    go_ret
    exact ⟨rfl, rfl⟩
end Go.Proofs.Ytkbcdfniocmamaa
