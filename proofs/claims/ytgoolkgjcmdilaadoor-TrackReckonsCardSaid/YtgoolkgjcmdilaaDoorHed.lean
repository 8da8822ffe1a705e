/-
  Headings, plainly: of eight directions the one that a move goes in; turned about, turned by a quarter.
  Headings: Mul64 of small numbers, flat, pick; the document's size and flat.
  Headings: Heading of both.
  TrackTurns: its walk.
-/
import Derived.Test.YtgoolkgjcmdilaaDoorKit
import Derived.Test.YtgoolkgjcmdilaaDoorProg
import Derived.Lib.Mul64
import Derived.Laws.Bits64b
import Derived.Test.YtgoolkgjcmdilaaDoorTraE
import Derived.Test.YtgoolkgjcmdilaaDoorTraF
namespace Hed

/-- Nearer to the first axis than to the diagonal. -/
def flatB (a b : Nat) : Bool := decide (b < a) && decide (2 * (b * b) < (a - b) * (a - b))
/-- The heading of a move. -/
def head (dx dy : Int) : Int :=
  if dx = 0 ∧ dy = 0 then -1 else
  if flatB dx.natAbs dy.natAbs = true then (if 0 < dx then 0 else 4) else
  if flatB dy.natAbs dx.natAbs = true then (if 0 < dy then 2 else 6) else
  if 0 < dy then (if 0 < dx then 1 else 3) else (if 0 < dx then 7 else 5)
theorem flat_zero {a : Nat} (h : a ≠ 0) : flatB a 0 = true := by
  unfold flatB
  have h1 : 0 < a := by omega
  have h2 : 0 < a * a := Nat.mul_pos h1 h1
  simp [h1, h2]
theorem flat_not {a b : Nat} (h : flatB a b = true) : flatB b a = false ∧ a ≠ 0 := by
  unfold flatB at h ⊢
  simp only [Bool.and_eq_true, decide_eq_true_eq] at h
  have : ¬ a < b := by omega
  simp only [decide_eq_false this, Bool.false_and, true_and]
  omega
theorem head_none {dx dy : Int} (h : dx = 0 ∧ dy = 0) : head dx dy = -1 := by unfold head; rw [if_pos h]
/-- The five cases of a move that goes somewhere. -/
theorem head_case {dx dy : Int} (h : ¬ (dx = 0 ∧ dy = 0)) :
    (flatB dx.natAbs dy.natAbs = true ∧ dx ≠ 0 ∧ head dx dy = if 0 < dx then 0 else 4) ∨
    (flatB dx.natAbs dy.natAbs = false ∧ flatB dy.natAbs dx.natAbs = true ∧ dy ≠ 0 ∧ head dx dy = if 0 < dy then 2 else 6) ∨
    (flatB dx.natAbs dy.natAbs = false ∧ flatB dy.natAbs dx.natAbs = false ∧ dx ≠ 0 ∧ dy ≠ 0 ∧ head dx dy = if 0 < dy then (if 0 < dx then 1 else 3) else (if 0 < dx then 7 else 5)) := by
  unfold head
  rw [if_neg h]
  cases h1 : flatB dx.natAbs dy.natAbs with
  | true =>
    have := (flat_not h1).2
    exact .inl ⟨rfl, by omega, by rw [if_pos rfl]⟩
  | false =>
    refine .inr ?_
    cases h2 : flatB dy.natAbs dx.natAbs with
    | true =>
      have := (flat_not h2).2
      exact .inl ⟨rfl, rfl, by omega, by rw [if_neg (by decide), if_pos rfl]⟩
    | false =>
      refine .inr ⟨rfl, rfl, ?_, ?_, by rw [if_neg (by decide), if_neg (by decide)]⟩
      · intro h3
        rw [h3, show (0 : Int).natAbs = 0 from rfl, flat_zero (by omega)] at h2
        cases h2
      · intro h3
        rw [h3, show (0 : Int).natAbs = 0 from rfl, flat_zero (by omega)] at h1
        cases h1
theorem head_range {dx dy : Int} (h : ¬ (dx = 0 ∧ dy = 0)) : 0 ≤ head dx dy ∧ head dx dy ≤ 7 := by
  rcases head_case h with ⟨_, _, e⟩ | ⟨_, _, _, e⟩ | ⟨_, _, _, _, e⟩
  · rw [e]; split <;> omega
  · rw [e]; split <;> omega
  · rw [e]; repeat' split
    all_goals omega
/-- Turned about: by four. -/
theorem head_about {dx dy : Int} (h : ¬ (dx = 0 ∧ dy = 0)) : head (-dx) (-dy) = (head dx dy + 4) % 8 := by
  have h' : ¬ (-dx = 0 ∧ -dy = 0) := by omega
  rcases head_case h with ⟨a, b, e⟩ | ⟨a, b, c, e⟩ | ⟨a, b, c, d, e⟩ <;> rcases head_case h' with ⟨a', b', e'⟩ | ⟨a', b', c', e'⟩ | ⟨a', b', c', d', e'⟩ <;> rw [Int.natAbs_neg, Int.natAbs_neg] at a' <;> try rw [Int.natAbs_neg, Int.natAbs_neg] at b'
  all_goals first
    | exact absurd (a.symm.trans a') (by decide)
    | exact absurd (b.symm.trans b') (by decide)
    | (rw [e, e']
       repeat' split
       all_goals omega)
/-- Turned by a quarter: by two. -/
theorem head_quarter {dx dy : Int} (h : ¬ (dx = 0 ∧ dy = 0)) : head (-dy) dx = (head dx dy + 2) % 8 := by
  have h' : ¬ (-dy = 0 ∧ dx = 0) := by omega
  rcases head_case h with ⟨a, b, e⟩ | ⟨a, b, c, e⟩ | ⟨a, b, c, d, e⟩ <;> rcases head_case h' with ⟨a', b', e'⟩ | ⟨a', b', c', e'⟩ | ⟨a', b', c', d', e'⟩ <;> rw [Int.natAbs_neg] at a' <;> try rw [Int.natAbs_neg] at b'
  all_goals first
    | exact absurd (a.symm.trans b') (by decide)
    | exact absurd (b.symm.trans a') (by decide)
    | exact absurd ((flat_not a).1.symm.trans a') (by decide)
    | exact absurd (a.symm.trans b') (by decide)
    | (rw [e, e']
       repeat' split
       all_goals omega)
end Hed
namespace Go.Proofs.YtgoolkgjcmdilaaDoor
open Go.RowKit Hed
set_option linter.unusedVariables false
set_option linter.unusedSimpArgs false

namespace Mul
theorem maskN (a : Nat) (ha : a < 18446744073709551616) : bits .and .u64 (a : Int) 4294967295 = ((a % 4294967296 : Nat) : Int) := by
  have h := bits_and_u64_nat a 4294967295 ha (by omega)
  have e : a &&& 4294967295 = a % 4294967296 := Nat.and_two_pow_sub_one_eq_mod a 32
  rw [e] at h
  exact h
theorem divN (a : Nat) : (a : Int) / 4294967296 = ((a / 4294967296 : Nat) : Int) := by omega
theorem mulN (a b : Nat) : (a : Int) * (b : Int) = ((a * b : Nat) : Int) := (Int.natCast_mul a b).symm
theorem addN (a b : Nat) : (a : Int) + (b : Int) = ((a + b : Nat) : Int) := (Int.natCast_add a b).symm
theorem wrapN (a : Nat) (ha : a < 18446744073709551616) : IntKind.u64.wrap (a : Int) = (a : Int) := by rw [IntKind.wrap_u64]; omega
theorem wrapM (a : Nat) : IntKind.u64.wrap (a : Int) = ((a % 18446744073709551616 : Nat) : Int) := by rw [IntKind.wrap_u64]; omega
end Mul
set_option maxHeartbeats 1000000 in
theorem mul64_any (w : World) (x y : Nat) (hx : x < 18446744073709551616) (hy : y < 18446744073709551616) :
    Calls Tryd.prog 141 #[.int .u64 x, .int .u64 y] w fun e w' => e = .returned (.tuple #[.int .u64 ((x * y / 18446744073709551616 : Nat) : Int), .int .u64 ((x * y % 18446744073709551616 : Nat) : Int)]) ∧ w = w' := by
  obtain ⟨bd, bt, bw, hhi⟩ := Lib.mul64_hi x y hx hy
  have ba := Lib.half_mul_le (a := x / 4294967296) (b := y / 4294967296) (by omega) (by omega)
  have bb := Lib.half_mul_le (a := x / 4294967296) (b := y % 4294967296) (by omega) (by omega)
  have bc := Lib.half_mul_le (a := x % 4294967296) (b := y / 4294967296) (by omega) (by omega)
  have ba' : x / 4294967296 * (y / 4294967296) < 18446744073709551616 := by omega
  have bb' : x / 4294967296 * (y % 4294967296) < 18446744073709551616 := by omega
  have bc' : x % 4294967296 * (y / 4294967296) < 18446744073709551616 := by omega
  have bh1 : x / 4294967296 * (y / 4294967296) + (x / 4294967296 * (y % 4294967296) + x % 4294967296 * (y % 4294967296) / 4294967296) / 4294967296 < 18446744073709551616 := by omega
  have bh : x / 4294967296 * (y / 4294967296) + (x / 4294967296 * (y % 4294967296) + x % 4294967296 * (y % 4294967296) / 4294967296) / 4294967296 + ((x / 4294967296 * (y % 4294967296) + x % 4294967296 * (y % 4294967296) / 4294967296) % 4294967296 + x % 4294967296 * (y / 4294967296)) / 4294967296 < 18446744073709551616 := by omega
  go_enter Tryd.func141, Tryd.ntmps141
  go_wp2
  simp only [Mul.maskN x hx, Mul.maskN y hy, Mul.divN, Mul.mulN, Mul.addN, Mul.wrapN _ bd, Mul.wrapN _ bb', Mul.wrapN _ bt, Mul.maskN _ bt, Mul.wrapN _ bc', Mul.wrapN _ bw, Mul.wrapN _ ba', Mul.wrapN _ bh1, Mul.wrapN _ bh, Mul.wrapM (x * y)]
  rw [hhi]
  go_ret2
  exact ⟨rfl, rfl⟩
theorem sq_small (b : Nat) (hb : b ≤ 4294967295) : b * b ≤ 18446744065119617025 := Nat.mul_le_mul hb hb
/-- A square of what is below 2^32. -/
theorem mul_small (w : World) (b : Nat) (hb : b ≤ 4294967295) (s : Nat) (hs : s = b * b) :
    Calls Tryd.prog 141 #[.int .u64 b, .int .u64 b] w fun e w' => e = .returned (.tuple #[.int .u64 0, .int .u64 s]) ∧ w = w' := by
  refine (mul64_any w b b (by omega) (by omega)).mono fun e w' ⟨h1, h2⟩ => ⟨?_, h2⟩
  have := sq_small b hb
  rw [h1, hs, Nat.div_eq_of_lt (by omega), Nat.mod_eq_of_lt (by omega)]
  rfl
theorem flat_le (w : World) (a b : Nat) (h : a ≤ b) : Calls Tryd.prog 104 #[.int .u64 a, .int .u64 b] w fun e w' => e = .returned (.bool false) ∧ w = w' := by
  go_enter Tryd.func104, Tryd.ntmps104
  go_wp2
  go_ret
  exact ⟨rfl, rfl⟩
set_option maxRecDepth 100000 in
theorem flat_gt (w : World) (a b : Nat) (h : ¬ a ≤ b) (ha : a ≤ 4294967295) : Calls Tryd.prog 104 #[.int .u64 a, .int .u64 b] w fun e w' => e = .returned (.bool (flatB a b)) ∧ w = w' := by
  have hm1 := Lib.hid (fun w => mul_small w b (by omega) (b * b) rfl)
  have hm2 := Lib.hid (fun w => mul_small w (a - b) (by omega) ((a - b) * (a - b)) rfl)
  have q1 := sq_small b (by omega)
  have q2 := sq_small (a - b) (by omega)
  have hf : flatB a b = decide (2 * (b * b) < (a - b) * (a - b)) := by unfold flatB; rw [decide_eq_true (by omega : b < a), Bool.true_and]
  rw [hf]
  have hsub : ((a : Int) - (b : Int)) = ((a - b : Nat) : Int) := by omega
  clear hf
  generalize b * b = s at *
  generalize hd : a - b = d at *
  generalize d * d = t at *
  have HS := Lib.hid hsub
  clear hsub hd
  by_cases hs : s < 9223372036854775808
  · have e1 : bits .or .u64 0 ((s : Int) / 9223372036854775808) = 0 := by
      rw [show (s : Int) / 9223372036854775808 = 0 by omega]
      decide
    have HE := Lib.hid e1
    clear e1
    go_enter Tryd.func104, Tryd.ntmps104
    go_wp2_with fail
    (with_reducible refine (hm1.out _).mono ?_)
    rintro e w1 ⟨rfl, rfl⟩
    go_wp2_with fail
    rw [HE.out, HS.out]
    (with_reducible refine (hm2.out _).mono ?_)
    rintro e w1 ⟨rfl, rfl⟩
    go_wp2_with fail
    go_ret
    exact ⟨ret_bool (by rw [decide_eq_decide]; omega), rfl⟩
  · have e1 : bits .or .u64 0 ((s : Int) / 9223372036854775808) = 1 := by
      rw [show (s : Int) / 9223372036854775808 = 1 by omega]
      decide
    have e2 : decide (2 * s < t) = false := decide_eq_false (by omega)
    rw [e2]
    have HE := Lib.hid e1
    clear e1 e2
    go_enter Tryd.func104, Tryd.ntmps104
    go_wp2_with fail
    (with_reducible refine (hm1.out _).mono ?_)
    rintro e w1 ⟨rfl, rfl⟩
    go_wp2_with fail
    rw [HE.out, HS.out]
    (with_reducible refine (hm2.out _).mono ?_)
    rintro e w1 ⟨rfl, rfl⟩
    go_wp2_with fail
    go_ret
    exact ⟨rfl, rfl⟩
theorem flatB_le {a b : Nat} (h : a ≤ b) : flatB a b = false := by unfold flatB; rw [decide_eq_false (by omega), Bool.false_and]
theorem flat_any (w : World) (a b : Nat) (ha : a ≤ 4294967295) : Calls Tryd.prog 104 #[.int .u64 a, .int .u64 b] w fun e w' => e = .returned (.bool (flatB a b)) ∧ w = w' := by
  by_cases h : a ≤ b
  · rw [flatB_le h]; exact flat_le w a b h
  · exact flat_gt w a b h ha
/-! ### the document's -/
theorem rflat_le (w : World) (a b : Nat) (h : a ≤ b) : Calls Tryd.prog 105 #[.int .u64 a, .int .u64 b] w fun e w' => e = .returned (.bool false) ∧ w = w' := by
  go_enter Tryd.func105, Tryd.ntmps105
  go_wp2
  go_ret
  exact ⟨rfl, rfl⟩
theorem rflat_gt (w : World) (a b : Nat) (h : ¬ a ≤ b) (ha : a ≤ 4294967295) : Calls Tryd.prog 105 #[.int .u64 a, .int .u64 b] w fun e w' => e = .returned (.bool (flatB a b)) ∧ w = w' := by
  have q1 := sq_small b (by omega)
  have q2 := sq_small (a - b) (by omega)
  have hf : flatB a b = decide (2 * (b * b) < (a - b) * (a - b)) := by unfold flatB; rw [decide_eq_true (by omega : b < a), Bool.true_and]
  rw [hf]
  have hsub : ((a : Int) - (b : Int)) = ((a - b : Nat) : Int) := by omega
  have hq1 : IntKind.u64.wrap ((b : Int) * (b : Int)) = ((b * b : Nat) : Int) := by rw [← Int.natCast_mul, IntKind.wrap_u64]; omega
  have hq2 : IntKind.u64.wrap (((a - b : Nat) : Int) * ((a - b : Nat) : Int)) = (((a - b) * (a - b) : Nat) : Int) := by rw [← Int.natCast_mul, IntKind.wrap_u64]; omega
  rw [← hsub] at hq2
  clear hf hsub
  generalize b * b = s at *
  generalize (a - b) * (a - b) = t at *
  go_enter Tryd.func105, Tryd.ntmps105
  go_wp2
  all_goals
    go_ret
    exact ⟨ret_bool (by first | exact (decide_eq_true (by omega)).symm | exact (decide_eq_false (by omega)).symm | (rw [decide_eq_decide]; omega) | (rw [Bool.eq_iff_iff, beq_iff_eq, decide_eq_true_eq]; omega)), rfl⟩
theorem rflat_any (w : World) (a b : Nat) (ha : a ≤ 4294967295) : Calls Tryd.prog 105 #[.int .u64 a, .int .u64 b] w fun e w' => e = .returned (.bool (flatB a b)) ∧ w = w' := by
  by_cases h : a ≤ b
  · rw [flatB_le h]; exact rflat_le w a b h
  · exact rflat_gt w a b h ha
theorem rsize_any (w : World) (a : Int) (h1 : -4294967295 ≤ a) (h2 : a ≤ 4294967295) : Calls Tryd.prog 99 #[.int .i64 a] w fun e w' => e = .returned (.int .u64 a.natAbs) ∧ w = w' := by
  go_enter Tryd.func99, Tryd.ntmps99
  go_wp2
  all_goals
    go_ret
    exact ⟨congrArg (fun z => Ending.returned (.int .u64 z)) (by omega), rfl⟩
theorem pick_any (w : World) (b : Bool) (x y : Int) : Calls Tryd.prog 103 #[.bool b, .int .i64 x, .int .i64 y] w fun e w' => e = .returned (.int .i64 (if b = true then x else y)) ∧ w = w' := by
  cases b
  all_goals
    go_enter Tryd.func103, Tryd.ntmps103
    go_wp2
    go_ret
    exact ⟨rfl, rfl⟩
end Go.Proofs.YtgoolkgjcmdilaaDoor
namespace Go.Proofs.YtgoolkgjcmdilaaDoor
open Go.RowKit Hed
set_option linter.unusedVariables false
set_option linter.unusedSimpArgs false
attribute [local go_sem] Oper.semAt_some

theorem dAbs_le {a b : Int} (ha : I32 a) (hb : I32 b) : dAbs a b ≤ 4294967295 := by
  obtain ⟨a1, a2⟩ := ha
  obtain ⟨b1, b2⟩ := hb
  unfold dAbs
  omega
theorem size_q (w : World) (a b : Int) (ha : I32 a) (hb : I32 b) : Calls Tryd.prog 102 #[.int .i32 a, .int .i32 b] w fun e w' => e = .returned (.int .u64 (dAbs a b)) ∧ w' = w :=
  (size_any w a b ha hb).mono fun _ _ ⟨h1, h2⟩ => ⟨h1, h2.symm⟩
theorem flat_0 (w : World) (b : Nat) : Calls Tryd.prog 104 #[.int .u64 0, .int .u64 b] w fun e w' => e = .returned (.bool false) ∧ w = w' := by
  have := flat_any w 0 b (by omega)
  rwa [flatB_le (Nat.zero_le b)] at this
theorem flat_b0 (w : World) (b : Nat) (h0 : ((b : Int) == 0) = false) (hb : b ≤ 4294967295) : Calls Tryd.prog 104 #[.int .u64 b, .int .u64 0] w fun e w' => e = .returned (.bool true) ∧ w = w' := by
  have := flat_any w b 0 hb
  rwa [flat_zero (by simpa using h0)] at this
/-- The heading by sizes and directions. -/
def headB (a b : Nat) (e n : Bool) : Int := if a = 0 ∧ b = 0 then -1 else if flatB a b = true then (if e = true then 0 else 4) else if flatB b a = true then (if n = true then 2 else 6) else if n = true then (if e = true then 1 else 3) else (if e = true then 7 else 5)
theorem headB_eq (dx dy : Int) (a b : Nat) (e n : Bool) (ha : a = dx.natAbs) (hb : b = dy.natAbs) (he : e = decide (0 < dx)) (hn : n = decide (0 < dy)) : head dx dy = headB a b e n := by
  unfold head headB
  subst ha hb he hn
  have h1 : (dx = 0 ∧ dy = 0) ↔ (dx.natAbs = 0 ∧ dy.natAbs = 0) := by omega
  simp only [decide_eq_true_eq, h1]
set_option maxRecDepth 100000 in
set_option maxHeartbeats 1000000 in
theorem heading_any (w : World) (px py qx qy : Int) (h1 : I32 px) (h2 : I32 py) (h3 : I32 qx) (h4 : I32 qy) :
    Calls Tryd.prog 44 #[.agg #[.int .i32 px, .int .i32 py], .agg #[.int .i32 qx, .int .i32 qy]] w fun e w' => e = .returned (.int .i64 (head (qx - px) (qy - py))) ∧ Fr [] w w' := by
  have F0 : Fr [] w ((w.alloc (.cells #[.int .i32 px, .int .i32 py] 98)).alloc (.cells #[.int .i32 qx, .int .i32 qy] 98)) := ((Fr.refl _ _).alloc _).alloc _
  have HF := Lib.hid F0
  clear F0
  have l1 := dAbs_le h1 h3
  have l2 := dAbs_le h2 h4
  have hz := headB_eq (qx - px) (qy - py) (dAbs px qx) (dAbs py qy) (decide (px < qx)) (decide (py < qy)) (by unfold dAbs; omega) (by unfold dAbs; omega) (by rw [decide_eq_decide]; omega) (by rw [decide_eq_decide]; omega)
  generalize head (qx - px) (qy - py) = Z at *
  have HZ := Lib.hid (And.intro hz (And.intro l1 l2))
  clear hz l1 l2
  go_enter Tryd.func44, Tryd.ntmps44
  go_wp2_with fail
  go_quiet ((go_at_call 102; exact Calls.quiet_of_same (size_q _ _ _ (by assumption) (by assumption))))
  rename Nat => n1
  go_wp2_with fail
  go_quiet (fail)
  rename Nat => n2
  obtain ⟨hz, l1, l2⟩ := HZ.out
  obtain ⟨w5, hw5⟩ : ∃ w5, w5 = (((w.alloc (.cells #[.int .i32 px, .int .i32 py] 98)).alloc (.cells #[.int .i32 qx, .int .i32 qy] 98)).drewN n1).drewN n2 := ⟨_, rfl⟩
  have HW := Lib.hid (show Fr [] w w5 by rw [hw5]; exact (HF.out.drewN _).drewN _)
  rw [← hw5]
  clear HZ hw5 HF
  generalize dAbs px qx = a at *
  generalize dAbs py qy = b at *
  generalize decide (px < qx) = x at *
  generalize decide (py < qy) = y at *
  have HZ := Lib.hid hz
  clear hz
  go_wp2_with (first | (go_at_call 104; (with_reducible refine (flat_0 _ _).mono ?_); rintro e w9 ⟨rfl, rfl⟩) | (go_at_call 104; (with_reducible refine (flat_b0 _ _ (by assumption) (by assumption)).mono ?_); rintro e w9 ⟨rfl, rfl⟩) | (go_at_call 104; (with_reducible refine (flat_any _ _ _ (by assumption)).mono ?_); rintro e w9 ⟨rfl, rfl⟩) | (go_at_call 103; (with_reducible refine (pick_any _ _ _ _).mono ?_); rintro e w9 ⟨rfl, rfl⟩))
  all_goals
    go_ret
    refine ⟨?_, HW.out⟩
    rw [HZ.out]
    unfold headB
    first
      | (simp [*]; done)
      | (have h0 : ((b : Int) == 0) = true := by assumption
         simp at h0
         simp [*]; done)
      | (have h0 : ((b : Int) == 0) = false := by assumption
         have h0 : b ≠ 0 := by simpa using h0
         simp [*, flat_zero h0, flatB_le (Nat.zero_le b)]; done)
/-! ### the document's -/
theorem rflat_0 (w : World) (b : Nat) : Calls Tryd.prog 105 #[.int .u64 0, .int .u64 b] w fun e w' => e = .returned (.bool false) ∧ w = w' := by
  have := rflat_any w 0 b (by omega)
  rwa [flatB_le (Nat.zero_le b)] at this
theorem rflat_b0 (w : World) (b : Nat) (h0 : ¬ b = 0) (hb : b ≤ 4294967295) : Calls Tryd.prog 105 #[.int .u64 b, .int .u64 0] w fun e w' => e = .returned (.bool true) ∧ w = w' := by
  have := rflat_any w b 0 hb
  rwa [flat_zero h0] at this
theorem rsize_0 (w : World) : Calls Tryd.prog 99 #[.int .i64 0] w fun e w' => e = .returned (.int .u64 0) ∧ w = w' := rsize_any w 0 (by decide) (by decide)
theorem rsize_pt (w : World) (p q : Int) (hp : I32 p) (hq : I32 q) : Calls Tryd.prog 99 #[.int .i64 (q - p)] w fun e w' => e = .returned (.int .u64 (dAbs p q)) ∧ w = w' := by
  obtain ⟨a1, a2⟩ := hp
  obtain ⟨b1, b2⟩ := hq
  rw [show dAbs p q = (q - p).natAbs by unfold dAbs; omega]
  exact rsize_any w (q - p) (by omega) (by omega)
/-- The end of the document's Heading: the heading by what it asks. -/
def headR (a b : Nat) (dx dy : Int) : Int := if dx = 0 ∧ dy = 0 then -1 else if flatB a b = true then (if 0 < dx then 0 else 4) else if flatB b a = true then (if 0 < dy then 2 else 6) else if 0 < dy then (if 0 < dx then 1 else 3) else (if 0 < dx then 7 else 5)
set_option maxRecDepth 100000 in
set_option maxHeartbeats 1000000 in
theorem rheading_any (w : World) (px py qx qy : Int) (h1 : I32 px) (h2 : I32 py) (h3 : I32 qx) (h4 : I32 qy) :
    Calls Tryd.prog 49 #[.agg #[.int .i32 px, .int .i32 py], .agg #[.int .i32 qx, .int .i32 qy]] w fun e w' => e = .returned (.int .i64 (head (qx - px) (qy - py))) ∧ Fr [] w w' := by
  have F0 : Fr [] w ((w.alloc (.cells #[.int .i32 px, .int .i32 py] 98)).alloc (.cells #[.int .i32 qx, .int .i32 qy] 98)) := ((Fr.refl _ _).alloc _).alloc _
  have HF := Lib.hid F0
  clear F0
  have l1 := dAbs_le h1 h3
  have l2 := dAbs_le h2 h4
  have S1 := Lib.hid (fun w => rsize_pt w px qx h1 h3)
  have S2 := Lib.hid (fun w => rsize_pt w py qy h2 h4)
  obtain ⟨p1, p2⟩ := h1
  obtain ⟨p3, p4⟩ := h2
  obtain ⟨q1, q2⟩ := h3
  obtain ⟨q3, q4⟩ := h4
  have hz : head (qx - px) (qy - py) = headR (dAbs px qx) (dAbs py qy) (qx - px) (qy - py) := by
    unfold head headR
    rw [show (qx - px).natAbs = dAbs px qx by unfold dAbs; omega, show (qy - py).natAbs = dAbs py qy by unfold dAbs; omega]
  have z1 : dAbs px qx = 0 ↔ qx - px = 0 := by unfold dAbs; omega
  have z2 : dAbs py qy = 0 ↔ qy - py = 0 := by unfold dAbs; omega
  have HZ := Lib.hid (And.intro hz (And.intro z1 z2))
  have HB := Lib.hid (show (qy - py == 0) = false → ¬ dAbs py qy = 0 from fun h => by
    have h : qy - py ≠ 0 := by simpa using h
    omega)
  clear hz z1 z2
  generalize head (qx - px) (qy - py) = Z at *
  generalize dAbs px qx = a at *
  generalize dAbs py qy = b at *
  go_enter Tryd.func49, Tryd.ntmps49
  go_wp2_with (first | (go_at_call 99; (with_reducible refine (S1.out _).mono ?_); rintro e w9 ⟨rfl, rfl⟩) | (go_at_call 99; (with_reducible refine (S2.out _).mono ?_); rintro e w9 ⟨rfl, rfl⟩) | (go_at_call 99; (with_reducible refine (rsize_0 _).mono ?_); rintro e w9 ⟨rfl, rfl⟩) | (go_at_call 105; (with_reducible refine (rflat_0 _ _).mono ?_); rintro e w9 ⟨rfl, rfl⟩) | (go_at_call 105; (with_reducible refine (rflat_b0 _ _ (HB.out (by assumption)) (by assumption)).mono ?_); rintro e w9 ⟨rfl, rfl⟩) | (go_at_call 105; (with_reducible refine (rflat_any _ _ _ (by assumption)).mono ?_); rintro e w9 ⟨rfl, rfl⟩))
  all_goals
    go_ret
    refine ⟨?_, HF.out⟩
    obtain ⟨hz, z1, z2⟩ := HZ.out
    refine congrArg (fun z => Ending.returned (.int .i64 z)) ?_
    rw [hz]
    unfold headR
    try simp only [beq_eq_false_iff_ne, beq_iff_eq] at *
    repeat' split
    all_goals first
      | rfl
      | (exfalso; omega)
      | (exfalso; contradiction)
      | (exfalso
         obtain rfl : a = 0 := by omega
         have hb : b ≠ 0 := by omega
         simp [flatB_le (Nat.zero_le b), flat_zero hb] at *
         done)
      | (exfalso
         obtain rfl : a = 0 := by omega
         have hb : b ≠ 0 := by omega
         simp [flatB_le (Nat.zero_le b), flat_zero hb] at *
         omega)
end Go.Proofs.YtgoolkgjcmdilaaDoor
namespace Go.Proofs.YtgoolkgjcmdilaaDoor
open Go.RowKit Hed
set_option linter.unusedVariables false
set_option linter.unusedSimpArgs false
attribute [local go_sem] Oper.semAt_some

theorem heading0 (w : World) (D E h : Int) (h1 : I32 D) (h2 : I32 E) (hh : head D E = h) : Calls Tryd.prog 44 #[.agg #[.int .i32 0, .int .i32 0], .agg #[.int .i32 D, .int .i32 E]] w fun e w' => e = .returned (.int .i64 h) ∧ Fr [] w w' := by
  have := heading_any w 0 0 D E ⟨by decide, by decide⟩ ⟨by decide, by decide⟩ h1 h2
  rwa [Int.sub_zero, Int.sub_zero, hh] at this
/-- What a law answers. -/
def Law (w : World) (e : Ending) (w' : World) : Prop := e = .returned (.bool true) ∧ Fr [] w w'
set_option maxRecDepth 100000 in
set_option maxHeartbeats 400000 in
theorem turns_none (w : World) (hT : DeB w) (px py qx qy : Int) (h1 : I32 px) (h2 : I32 py) (h3 : I32 qx) (h4 : I32 qy) (hz : qx - px = 0 ∧ qy - py = 0) :
    Calls Tryd.prog 7 #[.agg #[.int .i32 px, .int .i32 py], .agg #[.int .i32 qx, .int .i32 qy]] w (Law w) := by
  have F0 : Fr [] w ((w.alloc (.cells #[.int .i32 px, .int .i32 py] 98)).alloc (.cells #[.int .i32 qx, .int .i32 qy] 98)) := ((Fr.refl _ _).alloc _).alloc _
  have HD := Lib.hid (deB_fr2 hT F0)
  have HF := Lib.hid F0
  have HC := Lib.hid (fun w => heading_any w px py qx qy h1 h2 h3 h4)
  have hh := head_none hz
  rw [hh] at HC
  obtain ⟨p1, p2⟩ := h1
  obtain ⟨p3, p4⟩ := h2
  obtain ⟨q1, q2⟩ := h3
  obtain ⟨q3, q4⟩ := h4
  obtain ⟨z1, z2⟩ := hz
  clear F0 hT hh
  go_enter Tryd.func7, Tryd.ntmps7
  go_wp2_with fail
  (with_reducible refine (HC.out _).mono ?_)
  rintro e w1 ⟨rfl, f1⟩
  have HD1 := Lib.hid (deB_fr2 HD.out f1)
  have HF1 := Lib.hid (HF.out.trans f1 (by simp))
  clear f1 HD HF
  go_wp2_with fail
  (with_reducible refine (works_any _ HD1.out).mono ?_)
  rintro e w2 ⟨rfl, f2⟩
  have HF2 := Lib.hid (HF1.out.trans f2 (by simp))
  clear f2
  go_wp2_with fail
  go_ret
  exact ⟨rfl, HF2.out⟩
set_option maxRecDepth 100000 in
set_option maxHeartbeats 400000 in
theorem turns_far (w : World) (hT : DeB w) (px py qx qy : Int) (h1 : I32 px) (h2 : I32 py) (h3 : I32 qx) (h4 : I32 qy) (hz : ¬ (qx - px = 0 ∧ qy - py = 0)) :
    Calls Tryd.prog 7 #[.agg #[.int .i32 px, .int .i32 py], .agg #[.int .i32 qx, .int .i32 qy]] w (Law w) := by
  have F0 : Fr [] w ((w.alloc (.cells #[.int .i32 px, .int .i32 py] 98)).alloc (.cells #[.int .i32 qx, .int .i32 qy] 98)) := ((Fr.refl _ _).alloc _).alloc _
  have hA := (Blk.new w #[.int .i32 px, .int .i32 py] 98).alloc (.cells #[.int .i32 qx, .int .i32 qy] 98)
  have hB := Blk.new (w.alloc (.cells #[.int .i32 px, .int .i32 py] 98)) #[.int .i32 qx, .int .i32 qy] 98
  rw [show (w.alloc (.cells #[.int .i32 px, .int .i32 py] 98)).heap.size = w.heap.size + 1 by simp] at hB
  have HW := Lib.hid (And.intro (deB_fr2 hT F0) (And.intro F0 (And.intro hA hB)))
  have HC := Lib.hid (fun w => heading_any w px py qx qy h1 h2 h3 h4)
  have HO := Lib.hid (fun w => heading_any w qx qy px py h3 h4 h1 h2)
  have hh := head_about hz
  have hr := head_range hz
  rw [show -(qx - px) = px - qx by omega, show -(qy - py) = py - qy by omega] at hh
  rw [hh] at HO
  have hq := head_quarter hz
  clear hh
  generalize hg : head (qx - px) (qy - py) = h at *
  have HH := Lib.hid (And.intro hg hq)
  clear hg hq
  obtain ⟨r1, r2⟩ := hr
  obtain ⟨p1, p2⟩ := h1
  obtain ⟨p3, p4⟩ := h2
  obtain ⟨q1, q2⟩ := h3
  obtain ⟨q3, q4⟩ := h4
  have HZ := Lib.hid hz
  clear F0 hT hA hB hz
  go_enter Tryd.func7, Tryd.ntmps7
  go_wp2_with fail
  (with_reducible refine (HC.out _).mono ?_)
  rintro e w1 ⟨rfl, f1⟩
  have HW1 := Lib.hid (And.intro (deB_fr2 HW.out.1 f1) (And.intro (HW.out.2.1.trans f1 (by simp)) (And.intro (f1.blk HW.out.2.2.1 (by simp)) (f1.blk HW.out.2.2.2 (by simp)))))
  have c0 := HW1.out.2.2.1.at 0 (v := .int .i32 px) rfl
  have c1 := HW1.out.2.2.1.at 1 (v := .int .i32 py) rfl
  have d0 := HW1.out.2.2.2.at 0 (v := .int .i32 qx) rfl
  have d1 := HW1.out.2.2.2.at 1 (v := .int .i32 qy) rfl
  clear f1 HW
  go_wp2_with fail
  · exfalso
    have h0 : (qy - py == 0) = true := by assumption
    have h0 : qy - py = 0 := by simpa using h0
    exact HZ.out ⟨by assumption, h0⟩
  all_goals
    (with_reducible refine (HO.out _).mono ?_)
    rintro e w2 ⟨rfl, f2⟩
    have HD2 := Lib.hid (deB_fr2 HW1.out.1 f2)
    have HF2 := Lib.hid (HW1.out.2.1.trans f2 (by simp))
    clear f2 HW1 c0 c1 d0 d1
    go_wp2_with (first | (go_at_call 41; (with_reducible refine (works_any _ HD2.out).mono ?_); rintro e w3 ⟨rfl, f3⟩; have HF3 := Lib.hid (HF2.out.trans f3 (by simp)); clear f3))
  all_goals first
    | (go_ret; exact ⟨rfl, HF3.out⟩)
    | skip
  · have hx : qx - px = 0 := by assumption
    have hb : -1073741824 ≤ qy - py ∧ qy - py ≤ 1073741824 := by assumption
    obtain ⟨g1, g2⟩ := HH.out
    rw [hx] at g1 g2
    have HA := Lib.hid (fun w => heading0 w 0 (qy - py) h ⟨by omega, by omega⟩ ⟨by omega, by omega⟩ g1)
    have HB := Lib.hid (fun w => heading0 w (-(qy - py)) 0 _ ⟨by omega, by omega⟩ ⟨by omega, by omega⟩ g2)
    clear g1 g2
    (with_reducible refine (HA.out _).mono ?_)
    rintro e w3 ⟨rfl, f3⟩
    have HD3 := Lib.hid (deB_fr2 HD2.out f3)
    have HF3 := Lib.hid (HF2.out.trans f3 (by simp))
    clear f3 HD2 HF2 HA
    go_wp2_with fail
    (with_reducible refine (HB.out _).mono ?_)
    rintro e w4 ⟨rfl, f4⟩
    have HD4 := Lib.hid (deB_fr2 HD3.out f4)
    have HF4 := Lib.hid (HF3.out.trans f4 (by simp))
    clear f4 HD3 HF3 HB
    go_wp2_with (first | (go_at_call 41; (with_reducible refine (works_any _ HD4.out).mono ?_); rintro e w5 ⟨rfl, f5⟩; have HF5 := Lib.hid (HF4.out.trans f5 (by simp)); clear f5))
    go_ret
    exact ⟨rfl, HF5.out⟩
  · have hx : ¬ qx - px = 0 := by assumption
    have hb : ((-1073741824 ≤ qx - px ∧ qx - px ≤ 1073741824) ∧ -1073741824 ≤ qy - py) ∧ qy - py ≤ 1073741824 := by assumption
    obtain ⟨g1, g2⟩ := HH.out
    skip
    have HA := Lib.hid (fun w => heading0 w (qx - px) (qy - py) h ⟨by omega, by omega⟩ ⟨by omega, by omega⟩ g1)
    have HB := Lib.hid (fun w => heading0 w (-(qy - py)) (qx - px) _ ⟨by omega, by omega⟩ ⟨by omega, by omega⟩ g2)
    clear g1 g2
    (with_reducible refine (HA.out _).mono ?_)
    rintro e w3 ⟨rfl, f3⟩
    have HD3 := Lib.hid (deB_fr2 HD2.out f3)
    have HF3 := Lib.hid (HF2.out.trans f3 (by simp))
    clear f3 HD2 HF2 HA
    go_wp2_with fail
    (with_reducible refine (HB.out _).mono ?_)
    rintro e w4 ⟨rfl, f4⟩
    have HD4 := Lib.hid (deB_fr2 HD3.out f4)
    have HF4 := Lib.hid (HF3.out.trans f4 (by simp))
    clear f4 HD3 HF3 HB
    go_wp2_with (first | (go_at_call 41; (with_reducible refine (works_any _ HD4.out).mono ?_); rintro e w5 ⟨rfl, f5⟩; have HF5 := Lib.hid (HF4.out.trans f5 (by simp)); clear f5))
    go_ret
    exact ⟨rfl, HF5.out⟩
/-- TrackTurns answers true. -/
theorem turns_walk (w : World) (hT : DeB w) (px py qx qy : Int) (h1 : I32 px) (h2 : I32 py) (h3 : I32 qx) (h4 : I32 qy) :
    Calls Tryd.prog 7 #[.agg #[.int .i32 px, .int .i32 py], .agg #[.int .i32 qx, .int .i32 qy]] w (Law w) := by
  by_cases hz : qx - px = 0 ∧ qy - py = 0
  · exact turns_none w hT px py qx qy h1 h2 h3 h4 hz
  · exact turns_far w hT px py qx qy h1 h2 h3 h4 hz
end Go.Proofs.YtgoolkgjcmdilaaDoor
