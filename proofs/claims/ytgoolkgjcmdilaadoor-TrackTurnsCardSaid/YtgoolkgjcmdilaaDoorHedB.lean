/-
  Headings: Mul64 of small numbers, flat, pick; the document's size and flat.
-/
import Derived.Test.YtgoolkgjcmdilaaDoorKit
import Derived.Test.YtgoolkgjcmdilaaDoorProg
import Derived.Test.YtgoolkgjcmdilaaDoorHedA
import Derived.Lib.Mul64
import Derived.Laws.Bits64b
namespace Go.Proofs.YtgoolkgjcmdilaaDoor
open Go.RowKit Hed
set_option linter.unusedVariables false
set_option linter.unusedSimpArgs false

namespace Mul
theorem maskN (a : Nat) (ha : a < 18446744073709551616) : bits .and .u64 (a : Int) 4294967295 = ((a % 4294967296 : Nat) : Int) := by
  have h := bits_and_u64_nat a 4294967295 ha (by omega)
  have e : a &&& 4294967295 = a % 4294967296 := Nat.and_two_pow_sub_one_eq_mod a 32
  rw [e] at h
  exact h
theorem divN (a : Nat) : (a : Int) / 4294967296 = ((a / 4294967296 : Nat) : Int) := by omega
theorem mulN (a b : Nat) : (a : Int) * (b : Int) = ((a * b : Nat) : Int) := (Int.natCast_mul a b).symm
theorem addN (a b : Nat) : (a : Int) + (b : Int) = ((a + b : Nat) : Int) := (Int.natCast_add a b).symm
theorem wrapN (a : Nat) (ha : a < 18446744073709551616) : IntKind.u64.wrap (a : Int) = (a : Int) := by rw [IntKind.wrap_u64]; omega
theorem wrapM (a : Nat) : IntKind.u64.wrap (a : Int) = ((a % 18446744073709551616 : Nat) : Int) := by rw [IntKind.wrap_u64]; omega
end Mul
set_option maxHeartbeats 1000000 in
theorem mul64_any (w : World) (x y : Nat) (hx : x < 18446744073709551616) (hy : y < 18446744073709551616) :
    Calls Tryd.prog 141 #[.int .u64 x, .int .u64 y] w fun e w' => e = .returned (.tuple #[.int .u64 ((x * y / 18446744073709551616 : Nat) : Int), .int .u64 ((x * y % 18446744073709551616 : Nat) : Int)]) ∧ w = w' := by
  obtain ⟨bd, bt, bw, hhi⟩ := Lib.mul64_hi x y hx hy
  have ba := Lib.half_mul_le (a := x / 4294967296) (b := y / 4294967296) (by omega) (by omega)
  have bb := Lib.half_mul_le (a := x / 4294967296) (b := y % 4294967296) (by omega) (by omega)
  have bc := Lib.half_mul_le (a := x % 4294967296) (b := y / 4294967296) (by omega) (by omega)
  have ba' : x / 4294967296 * (y / 4294967296) < 18446744073709551616 := by omega
  have bb' : x / 4294967296 * (y % 4294967296) < 18446744073709551616 := by omega
  have bc' : x % 4294967296 * (y / 4294967296) < 18446744073709551616 := by omega
  have bh1 : x / 4294967296 * (y / 4294967296) + (x / 4294967296 * (y % 4294967296) + x % 4294967296 * (y % 4294967296) / 4294967296) / 4294967296 < 18446744073709551616 := by omega
  have bh : x / 4294967296 * (y / 4294967296) + (x / 4294967296 * (y % 4294967296) + x % 4294967296 * (y % 4294967296) / 4294967296) / 4294967296 + ((x / 4294967296 * (y % 4294967296) + x % 4294967296 * (y % 4294967296) / 4294967296) % 4294967296 + x % 4294967296 * (y / 4294967296)) / 4294967296 < 18446744073709551616 := by omega
  go_enter Tryd.func141, Tryd.ntmps141
  go_wp2
  simp only [Mul.maskN x hx, Mul.maskN y hy, Mul.divN, Mul.mulN, Mul.addN, Mul.wrapN _ bd, Mul.wrapN _ bb', Mul.wrapN _ bt, Mul.maskN _ bt, Mul.wrapN _ bc', Mul.wrapN _ bw, Mul.wrapN _ ba', Mul.wrapN _ bh1, Mul.wrapN _ bh, Mul.wrapM (x * y)]
  rw [hhi]
  go_ret2
  exact ⟨rfl, rfl⟩
theorem sq_small (b : Nat) (hb : b ≤ 4294967295) : b * b ≤ 18446744065119617025 := Nat.mul_le_mul hb hb
/-- A square of what is below 2^32. -/
theorem mul_small (w : World) (b : Nat) (hb : b ≤ 4294967295) (s : Nat) (hs : s = b * b) :
    Calls Tryd.prog 141 #[.int .u64 b, .int .u64 b] w fun e w' => e = .returned (.tuple #[.int .u64 0, .int .u64 s]) ∧ w = w' := by
  refine (mul64_any w b b (by omega) (by omega)).mono fun e w' ⟨h1, h2⟩ => ⟨?_, h2⟩
  have := sq_small b hb
  rw [h1, hs, Nat.div_eq_of_lt (by omega), Nat.mod_eq_of_lt (by omega)]
  rfl
theorem flat_le (w : World) (a b : Nat) (h : a ≤ b) : Calls Tryd.prog 104 #[.int .u64 a, .int .u64 b] w fun e w' => e = .returned (.bool false) ∧ w = w' := by
  go_enter Tryd.func104, Tryd.ntmps104
  go_wp2
  go_ret
  exact ⟨rfl, rfl⟩
set_option maxRecDepth 100000 in
theorem flat_gt (w : World) (a b : Nat) (h : ¬ a ≤ b) (ha : a ≤ 4294967295) : Calls Tryd.prog 104 #[.int .u64 a, .int .u64 b] w fun e w' => e = .returned (.bool (flatB a b)) ∧ w = w' := by
  have hm1 := Lib.hid (fun w => mul_small w b (by omega) (b * b) rfl)
  have hm2 := Lib.hid (fun w => mul_small w (a - b) (by omega) ((a - b) * (a - b)) rfl)
  have q1 := sq_small b (by omega)
  have q2 := sq_small (a - b) (by omega)
  have hf : flatB a b = decide (2 * (b * b) < (a - b) * (a - b)) := by unfold flatB; rw [decide_eq_true (by omega : b < a), Bool.true_and]
  rw [hf]
  have hsub : ((a : Int) - (b : Int)) = ((a - b : Nat) : Int) := by omega
  clear hf
  generalize b * b = s at *
  generalize hd : a - b = d at *
  generalize d * d = t at *
  have HS := Lib.hid hsub
  clear hsub hd
  by_cases hs : s < 9223372036854775808
  · have e1 : bits .or .u64 0 ((s : Int) / 9223372036854775808) = 0 := by
      rw [show (s : Int) / 9223372036854775808 = 0 by omega]
      decide
    have HE := Lib.hid e1
    clear e1
    go_enter Tryd.func104, Tryd.ntmps104
    go_wp2_with fail
    (with_reducible refine (hm1.out _).mono ?_)
    rintro e w1 ⟨rfl, rfl⟩
    go_wp2_with fail
    rw [HE.out, HS.out]
    (with_reducible refine (hm2.out _).mono ?_)
    rintro e w1 ⟨rfl, rfl⟩
    go_wp2_with fail
    go_ret
    exact ⟨ret_bool (by rw [decide_eq_decide]; omega), rfl⟩
  · have e1 : bits .or .u64 0 ((s : Int) / 9223372036854775808) = 1 := by
      rw [show (s : Int) / 9223372036854775808 = 1 by omega]
      decide
    have e2 : decide (2 * s < t) = false := decide_eq_false (by omega)
    rw [e2]
    have HE := Lib.hid e1
    clear e1 e2
    go_enter Tryd.func104, Tryd.ntmps104
    go_wp2_with fail
    (with_reducible refine (hm1.out _).mono ?_)
    rintro e w1 ⟨rfl, rfl⟩
    go_wp2_with fail
    rw [HE.out, HS.out]
    (with_reducible refine (hm2.out _).mono ?_)
    rintro e w1 ⟨rfl, rfl⟩
    go_wp2_with fail
    go_ret
    exact ⟨rfl, rfl⟩
theorem flatB_le {a b : Nat} (h : a ≤ b) : flatB a b = false := by unfold flatB; rw [decide_eq_false (by omega), Bool.false_and]
theorem flat_any (w : World) (a b : Nat) (ha : a ≤ 4294967295) : Calls Tryd.prog 104 #[.int .u64 a, .int .u64 b] w fun e w' => e = .returned (.bool (flatB a b)) ∧ w = w' := by
  by_cases h : a ≤ b
  · rw [flatB_le h]; exact flat_le w a b h
  · exact flat_gt w a b h ha
/-! ### the document's -/
theorem rflat_le (w : World) (a b : Nat) (h : a ≤ b) : Calls Tryd.prog 105 #[.int .u64 a, .int .u64 b] w fun e w' => e = .returned (.bool false) ∧ w = w' := by
  go_enter Tryd.func105, Tryd.ntmps105
  go_wp2
  go_ret
  exact ⟨rfl, rfl⟩
theorem rflat_gt (w : World) (a b : Nat) (h : ¬ a ≤ b) (ha : a ≤ 4294967295) : Calls Tryd.prog 105 #[.int .u64 a, .int .u64 b] w fun e w' => e = .returned (.bool (flatB a b)) ∧ w = w' := by
  have q1 := sq_small b (by omega)
  have q2 := sq_small (a - b) (by omega)
  have hf : flatB a b = decide (2 * (b * b) < (a - b) * (a - b)) := by unfold flatB; rw [decide_eq_true (by omega : b < a), Bool.true_and]
  rw [hf]
  have hsub : ((a : Int) - (b : Int)) = ((a - b : Nat) : Int) := by omega
  have hq1 : IntKind.u64.wrap ((b : Int) * (b : Int)) = ((b * b : Nat) : Int) := by rw [← Int.natCast_mul, IntKind.wrap_u64]; omega
  have hq2 : IntKind.u64.wrap (((a - b : Nat) : Int) * ((a - b : Nat) : Int)) = (((a - b) * (a - b) : Nat) : Int) := by rw [← Int.natCast_mul, IntKind.wrap_u64]; omega
  rw [← hsub] at hq2
  clear hf hsub
  generalize b * b = s at *
  generalize (a - b) * (a - b) = t at *
  go_enter Tryd.func105, Tryd.ntmps105
  go_wp2
  all_goals
    go_ret
    exact ⟨ret_bool (by first | exact (decide_eq_true (by omega)).symm | exact (decide_eq_false (by omega)).symm | (rw [decide_eq_decide]; omega) | (rw [Bool.eq_iff_iff, beq_iff_eq, decide_eq_true_eq]; omega)), rfl⟩
theorem rflat_any (w : World) (a b : Nat) (ha : a ≤ 4294967295) : Calls Tryd.prog 105 #[.int .u64 a, .int .u64 b] w fun e w' => e = .returned (.bool (flatB a b)) ∧ w = w' := by
  by_cases h : a ≤ b
  · rw [flatB_le h]; exact rflat_le w a b h
  · exact rflat_gt w a b h ha
theorem rsize_any (w : World) (a : Int) (h1 : -4294967295 ≤ a) (h2 : a ≤ 4294967295) : Calls Tryd.prog 99 #[.int .i64 a] w fun e w' => e = .returned (.int .u64 a.natAbs) ∧ w = w' := by
  go_enter Tryd.func99, Tryd.ntmps99
  go_wp2
  all_goals
    go_ret
    exact ⟨congrArg (fun z => Ending.returned (.int .u64 z)) (by omega), rfl⟩
theorem pick_any (w : World) (b : Bool) (x y : Int) : Calls Tryd.prog 103 #[.bool b, .int .i64 x, .int .i64 y] w fun e w' => e = .returned (.int .i64 (if b = true then x else y)) ∧ w = w' := by
  cases b
  all_goals
    go_enter Tryd.func103, Tryd.ntmps103
    go_wp2
    go_ret
    exact ⟨rfl, rfl⟩
end Go.Proofs.YtgoolkgjcmdilaaDoor
