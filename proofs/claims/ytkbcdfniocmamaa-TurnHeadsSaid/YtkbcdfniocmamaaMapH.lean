/-
  Sector of package turn, by contract.
-/
import Derived.Test.YtkbcdfniocmamaaFloE
import Derived.Test.YtkbcdfniocmamaaMapB
namespace Go.Proofs.Ytkbcdfniocmamaa
open Go.RowKit Flo
set_option linter.unusedVariables false

theorem unop_negF (x : Nat) : Op.unary .neg (.float .f64 x) = pure (.float .f64 (neg x)) := rfl
attribute [go_sem ↓ high] unop_negF
attribute [go_sem high] unop_negF
/-- The sector, by what the parts stand for. -/
def secP (X Y : Int) : Int :=
  if X = 0 ∧ Y = 0 then -1
  else if 0 < X ∧ 0 ≤ Y then (if X ≤ Y then 1 else 0)
  else if 0 < Y ∧ 0 ≤ -X then (if Y ≤ -X then 3 else 2)
  else if 0 < -X ∧ 0 ≤ -Y then (if -X ≤ -Y then 5 else 4)
  else (if -Y ≤ X then 7 else 6)
def sec (x y : Nat) : Int := if isNaN x = true ∨ isNaN y = true then -1 else secP (key x) (key y)
theorem re_fr (w : World) (a b : Nat) : Calls Try.prog 56 #[.complex .f64 a b] w fun e w' => e = .returned (.float .f64 a) ∧ w = w' := re_any w a b
/-- Into no sector. -/
theorem sector_none (w : World) (x y : Nat) (h : (feq x 0 && feq y 0) = true ∨ feq x x = false ∨ feq y y = false) : Calls Try.prog 24 #[.complex .f64 x y] w fun e w' => e = .returned (.int .i8 (-1)) ∧ w = w' := by
  cases h1 : (feq x 0 && feq y 0) <;> cases h2 : feq x x <;> cases h3 : feq y y
  all_goals
    first
    | (exfalso; simp [h1, h2, h3] at h; done)
    | (clear h
       go_enter Try.func24, Try.ntmps24
       go_wp2_with (go_at_call 56; refine (re_any _ _ _).mono ?_; rintro e w9 ⟨rfl, rfl⟩)
       go_ret
       exact ⟨rfl, rfl⟩)
set_option maxHeartbeats 2000000 in
theorem sector_at0 (w : World) (x y : Nat) (h1 : (feq x 0 && feq y 0) = false) (h2 : feq x x = true) (h3 : feq y y = true) (k1 : fgt x 0 = true) (k2 : fge y 0 = true) (b : Bool) (hb : fge y x = b) : Calls Try.prog 24 #[.complex .f64 x y] w fun e w' => e = .returned (.int .i8 (if b then 1 else 0)) ∧ w = w' := by
  cases b
  all_goals
    go_enter Try.func24, Try.ntmps24
    go_wp2_with (go_at_call 56; refine (re_any _ _ _).mono ?_; rintro e w9 ⟨rfl, rfl⟩)
    refine wp_loop_rounds 1 ?_
    rw [rounds_succ]
    go_wp2
    go_ret
    exact ⟨rfl, rfl⟩
set_option maxHeartbeats 2000000 in
theorem sector_at1 (w : World) (x y : Nat) (h1 : (feq x 0 && feq y 0) = false) (h2 : feq x x = true) (h3 : feq y y = true) (n0 : fgt x 0 = false ∨ (fgt x 0 = true ∧ fge y 0 = false)) (k1 : fgt y 0 = true) (k2 : fge (neg x) 0 = true) (b : Bool) (hb : fge (neg x) y = b) : Calls Try.prog 24 #[.complex .f64 x y] w fun e w' => e = .returned (.int .i8 (if b then 3 else 2)) ∧ w = w' := by
  cases b
  all_goals rcases n0 with m0 | ⟨m0, q0⟩
  all_goals
    go_enter Try.func24, Try.ntmps24
    go_wp2_with (go_at_call 56; refine (re_any _ _ _).mono ?_; rintro e w9 ⟨rfl, rfl⟩)
    refine wp_loop_rounds 2 ?_
    rw [rounds_succ]
    go_wp2
    rw [rounds_succ]
    go_wp2
    go_ret
    exact ⟨rfl, rfl⟩
set_option maxHeartbeats 2000000 in
theorem sector_at2 (w : World) (x y : Nat) (h1 : (feq x 0 && feq y 0) = false) (h2 : feq x x = true) (h3 : feq y y = true) (n0 : fgt x 0 = false ∨ (fgt x 0 = true ∧ fge y 0 = false)) (n1 : fgt y 0 = false ∨ (fgt y 0 = true ∧ fge (neg x) 0 = false)) (k1 : fgt (neg x) 0 = true) (k2 : fge (neg y) 0 = true) (b : Bool) (hb : fge (neg y) (neg x) = b) : Calls Try.prog 24 #[.complex .f64 x y] w fun e w' => e = .returned (.int .i8 (if b then 5 else 4)) ∧ w = w' := by
  cases b
  all_goals rcases n0 with m0 | ⟨m0, q0⟩
  all_goals rcases n1 with m1 | ⟨m1, q1⟩
  all_goals
    go_enter Try.func24, Try.ntmps24
    go_wp2_with (go_at_call 56; refine (re_any _ _ _).mono ?_; rintro e w9 ⟨rfl, rfl⟩)
    refine wp_loop_rounds 3 ?_
    rw [rounds_succ]
    go_wp2
    rw [rounds_succ]
    go_wp2
    rw [rounds_succ]
    go_wp2
    go_ret
    exact ⟨rfl, rfl⟩
set_option maxHeartbeats 2000000 in
theorem sector_at3 (w : World) (x y : Nat) (h1 : (feq x 0 && feq y 0) = false) (h2 : feq x x = true) (h3 : feq y y = true) (n0 : fgt x 0 = false ∨ (fgt x 0 = true ∧ fge y 0 = false)) (n1 : fgt y 0 = false ∨ (fgt y 0 = true ∧ fge (neg x) 0 = false)) (n2 : fgt (neg x) 0 = false ∨ (fgt (neg x) 0 = true ∧ fge (neg y) 0 = false)) (k1 : fgt (neg y) 0 = true) (k2 : fge (neg (neg x)) 0 = true) (b : Bool) (hb : fge (neg (neg x)) (neg y) = b) : Calls Try.prog 24 #[.complex .f64 x y] w fun e w' => e = .returned (.int .i8 (if b then 7 else 6)) ∧ w = w' := by
  cases b
  all_goals rcases n0 with m0 | ⟨m0, q0⟩
  all_goals rcases n1 with m1 | ⟨m1, q1⟩
  all_goals rcases n2 with m2 | ⟨m2, q2⟩
  all_goals
    go_enter Try.func24, Try.ntmps24
    go_wp2_with (go_at_call 56; refine (re_any _ _ _).mono ?_; rintro e w9 ⟨rfl, rfl⟩)
    refine wp_loop_rounds 4 ?_
    rw [rounds_succ]
    go_wp2
    rw [rounds_succ]
    go_wp2
    rw [rounds_succ]
    go_wp2
    rw [rounds_succ]
    go_wp2
    go_ret
    exact ⟨rfl, rfl⟩
theorem feq_zero {x : Nat} (h : isNaN x = false) : feq x 0 = decide (key x = 0) := by rw [feq_iff h (by decide), key_zero]
theorem fgt_zero {x : Nat} (h : isNaN x = false) : fgt x 0 = decide (0 < key x) := by rw [fgt_iff h (by decide), key_zero]
theorem fge_zero {x : Nat} (h : isNaN x = false) : fge x 0 = decide (0 ≤ key x) := by rw [fge_iff h (by decide), key_zero]
theorem not_turn {x y : Nat} (hx : isNaN x = false) (hy : isNaN y = false) (h : ¬ (0 < key x ∧ 0 ≤ key y)) : fgt x 0 = false ∨ (fgt x 0 = true ∧ fge y 0 = false) := by
  rw [fgt_zero hx, fge_zero hy]
  by_cases h1 : 0 < key x
  · exact .inr ⟨decide_eq_true h1, decide_eq_false fun h2 => h ⟨h1, h2⟩⟩
  · exact .inl (decide_eq_false h1)
theorem sector_any (w : World) (x y : Nat) : Calls Try.prog 24 #[.complex .f64 x y] w fun e w' => e = .returned (.int .i8 (sec x y)) ∧ w = w' := by
  unfold sec
  cases hx : isNaN x
  case true => rw [if_pos (.inl rfl)]; exact sector_none w x y (.inr (.inl (by rw [feq_self, hx]; rfl)))
  case false =>
    cases hy : isNaN y
    case true => rw [if_pos (.inr rfl)]; exact sector_none w x y (.inr (.inr (by rw [feq_self, hy]; rfl)))
    case false =>
      rw [if_neg (by simp)]
      have hx' := (nan_neg x).trans hx
      have hy' := (nan_neg y).trans hy
      have hx'' := (nan_neg (neg x)).trans hx'
      have e1 := key_neg x
      have e2 := key_neg y
      have e3 := key_neg (neg x)
      have a1 : feq x x = true := by rw [feq_self, hx]; rfl
      have a2 : feq y y = true := by rw [feq_self, hy]; rfl
      unfold secP
      by_cases h0 : key x = 0 ∧ key y = 0
      · rw [if_pos h0]
        exact sector_none w x y (.inl (by rw [feq_zero hx, feq_zero hy, decide_eq_true h0.1, decide_eq_true h0.2]; rfl))
      · rw [if_neg h0]
        have a0 : (feq x 0 && feq y 0) = false := by
          rw [feq_zero hx, feq_zero hy]
          by_cases h1 : key x = 0
          · rw [decide_eq_true h1, decide_eq_false fun h2 => h0 ⟨h1, h2⟩]; rfl
          · rw [decide_eq_false h1]; rfl
        by_cases c0 : 0 < key x ∧ 0 ≤ key y
        · rw [if_pos c0]
          refine (sector_at0 w x y a0 a1 a2 (by rw [fgt_zero hx]; exact decide_eq_true c0.1) (by rw [fge_zero hy]; exact decide_eq_true c0.2) _ rfl).mono fun e w' h => ⟨?_, h.2⟩
          rw [h.1, fge_iff hy hx]
          by_cases h3 : key x ≤ key y
          · rw [decide_eq_true h3, if_pos rfl, if_pos h3]
          · rw [decide_eq_false h3, if_neg (by decide), if_neg h3]
        · rw [if_neg c0]
          have n0 := not_turn hx hy c0
          by_cases c1 : 0 < key y ∧ 0 ≤ - key x
          · rw [if_pos c1]
            refine (sector_at1 w x y a0 a1 a2 n0 (by rw [fgt_zero hy]; exact decide_eq_true c1.1) (by rw [fge_zero hx', e1]; exact decide_eq_true c1.2) _ rfl).mono fun e w' h => ⟨?_, h.2⟩
            rw [h.1, fge_iff hx' hy, e1]
            by_cases h3 : key y ≤ - key x
            · rw [decide_eq_true h3, if_pos rfl, if_pos h3]
            · rw [decide_eq_false h3, if_neg (by decide), if_neg h3]
          · rw [if_neg c1]
            have n1 := not_turn hy hx' (by rw [e1]; exact c1)
            by_cases c2 : 0 < - key x ∧ 0 ≤ - key y
            · rw [if_pos c2]
              refine (sector_at2 w x y a0 a1 a2 n0 n1 (by rw [fgt_zero hx', e1]; exact decide_eq_true c2.1) (by rw [fge_zero hy', e2]; exact decide_eq_true c2.2) _ rfl).mono fun e w' h => ⟨?_, h.2⟩
              rw [h.1, fge_iff hy' hx', e1, e2]
              by_cases h3 : - key x ≤ - key y
              · rw [decide_eq_true h3, if_pos rfl, if_pos h3]
              · rw [decide_eq_false h3, if_neg (by decide), if_neg h3]
            · rw [if_neg c2]
              have n2 := not_turn hx' hy' (by rw [e1, e2]; exact c2)
              refine (sector_at3 w x y a0 a1 a2 n0 n1 n2 (by rw [fgt_zero hy', e2]; exact decide_eq_true (by omega)) (by rw [fge_zero hx'', e3, e1]; exact decide_eq_true (by omega)) _ rfl).mono fun e w' h => ⟨?_, h.2⟩
              rw [h.1, fge_iff hx'' hy', e3, e1, e2, Int.neg_neg]
              by_cases h3 : - key y ≤ key x
              · rw [decide_eq_true h3, if_pos rfl, if_pos h3]
              · rw [decide_eq_false h3, if_neg (by decide), if_neg h3]
end Go.Proofs.Ytkbcdfniocmamaa
