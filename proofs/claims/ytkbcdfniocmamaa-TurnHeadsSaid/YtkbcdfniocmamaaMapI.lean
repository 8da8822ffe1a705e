/-
  Sector of the document, by contract.
-/
import Derived.Test.YtkbcdfniocmamaaMapH
namespace Go.Proofs.Ytkbcdfniocmamaa
open Go.RowKit Flo
set_option linter.unusedVariables false

theorem flt_zero {x : Nat} (h : isNaN x = false) : flt x 0 = decide (key x < 0) := by rw [flt_iff h (by decide), key_zero]
theorem fle_zero {x : Nat} (h : isNaN x = false) : fle x 0 = decide (key x ≤ 0) := by rw [fle_iff h (by decide), key_zero]
def SizeR (x r : Nat) : Prop := isNaN r = false ∧ key r = ((key x).natAbs : Int)
theorem size_any (w : World) (x : Nat) (hx : isNaN x = false) : Calls Try.prog 57 #[.float .f64 x] w (FRes (SizeR x) w) := by
  have E := flt_zero hx
  cases h : flt x 0 with
  | false =>
    have H := Lib.hid (And.intro hx (E.symm.trans h))
    clear E hx
    go_enter Try.func57, Try.ntmps57
    go_wp2
    go_ret
    exact ⟨_, rfl, ⟨H.out.1, by have := of_decide_eq_false H.out.2; omega⟩, Fr.refl [] w⟩
  | true =>
    have H := Lib.hid (And.intro hx (E.symm.trans h))
    clear E hx
    go_enter Try.func57, Try.ntmps57
    go_wp2
    go_ret
    exact ⟨_, rfl, by
      have := zero_sub H.out.1 (subV_gives w 0 x)
      refine ⟨this.1, ?_⟩
      have h2 := of_decide_eq_true H.out.2
      rw [this.2]; omega, (Fr.refl [] w).subW _ _⟩
/-- A number's sign, as four comparisons tell it. -/
theorem signs {x : Nat} (h : isNaN x = false) : (feq x 0 = false ∧ fgt x 0 = true ∧ fge x 0 = true ∧ fle x 0 = false ∧ flt x 0 = false ∧ Hid (0 < key x)) ∨
    (feq x 0 = true ∧ fgt x 0 = false ∧ fge x 0 = true ∧ fle x 0 = true ∧ flt x 0 = false ∧ Hid (key x = 0)) ∨
    (feq x 0 = false ∧ fgt x 0 = false ∧ fge x 0 = false ∧ fle x 0 = true ∧ flt x 0 = true ∧ Hid (key x < 0)) := by
  rw [feq_zero h, fgt_zero h, fge_zero h, fle_zero h, flt_zero h]
  rcases Int.lt_trichotomy (key x) 0 with k | k | k
  · exact .inr (.inr ⟨decide_eq_false (by omega), decide_eq_false (by omega), decide_eq_false (by omega), decide_eq_true (by omega), decide_eq_true (by omega), Lib.hid k⟩)
  · exact .inr (.inl ⟨decide_eq_true (by omega), decide_eq_false (by omega), decide_eq_true (by omega), decide_eq_true (by omega), decide_eq_false (by omega), Lib.hid k⟩)
  · exact .inl ⟨decide_eq_false (by omega), decide_eq_true (by omega), decide_eq_true (by omega), decide_eq_false (by omega), decide_eq_false (by omega), Lib.hid k⟩
theorem sizes {a b : Nat} (ha : isNaN a = false) (hb : isNaN b = false) : (flt a b = true ∧ fge a b = false ∧ flt b a = false ∧ fge b a = true ∧ Hid (key a < key b)) ∨
    (flt a b = false ∧ fge a b = true ∧ flt b a = false ∧ fge b a = true ∧ Hid (key a = key b)) ∨
    (flt a b = false ∧ fge a b = true ∧ flt b a = true ∧ fge b a = false ∧ Hid (key b < key a)) := by
  rw [flt_iff ha hb, fge_iff ha hb, flt_iff hb ha, fge_iff hb ha]
  rcases Int.lt_trichotomy (key a) (key b) with k | k | k
  · exact .inl ⟨decide_eq_true (by omega), decide_eq_false (by omega), decide_eq_false (by omega), decide_eq_true (by omega), Lib.hid k⟩
  · exact .inr (.inl ⟨decide_eq_false (by omega), decide_eq_true (by omega), decide_eq_false (by omega), decide_eq_true (by omega), Lib.hid k⟩)
  · exact .inr (.inr ⟨decide_eq_false (by omega), decide_eq_true (by omega), decide_eq_true (by omega), decide_eq_false (by omega), Lib.hid k⟩)
theorem refSector_none (w : World) (x y : Nat) (h : feq x x = false ∨ feq y y = false ∨ (feq x 0 = true ∧ feq y 0 = true)) : Calls Try.prog 25 #[.agg #[.float .f64 x, .float .f64 y]] w fun e w' => e = .returned (.int .i8 (-1)) ∧ Fr [] w w' := by
  have F := Lib.hid ((Fr.refl [] w).alloc (.cells #[.float .f64 x, .float .f64 y] 33))
  have h0 := (Blk.new w #[.float .f64 x, .float .f64 y] 33).at 0 (v := .float .f64 x) rfl
  have h1 := (Blk.new w #[.float .f64 x, .float .f64 y] 33).at 1 (v := .float .f64 y) rfl
  cases h2 : feq x x <;> cases h3 : feq y y
  all_goals rcases h with h | h | ⟨h, h'⟩
  all_goals
    first
    | (exfalso; rw [h2] at h; cases h; done)
    | (exfalso; rw [h3] at h; cases h; done)
    | (go_enter Try.func25, Try.ntmps25
       go_wp2_with fail
       go_ret
       exact ⟨rfl, F.out⟩)
set_option maxHeartbeats 8000000 in
theorem refSector_main (w : World) (x y : Nat) (hx : isNaN x = false) (hy : isNaN y = false) (h0 : ¬ (key x = 0 ∧ key y = 0)) : Calls Try.prog 25 #[.agg #[.float .f64 x, .float .f64 y]] w fun e w' => e = .returned (.int .i8 (sec x y)) ∧ Fr [] w w' := by
  have F := Lib.hid ((Fr.refl [] w).alloc (.cells #[.float .f64 x, .float .f64 y] 33))
  have c0 := (Blk.new w #[.float .f64 x, .float .f64 y] 33).at 0 (v := .float .f64 x) rfl
  have c1 := (Blk.new w #[.float .f64 x, .float .f64 y] 33).at 1 (v := .float .f64 y) rfl
  have h2 : feq x x = true := by rw [feq_self, hx]; rfl
  have h3 : feq y y = true := by rw [feq_self, hy]; rfl
  have HX := Lib.hid hx
  have HY := Lib.hid hy
  have H0 := Lib.hid h0
  have S1 := Lib.hid (fun w => size_any w x hx)
  have S2 := Lib.hid (fun w => size_any w y hy)
  clear hx hy h0
  rcases signs HX.out with ⟨a1, a2, a3, a4, a5, A⟩ | ⟨a1, a2, a3, a4, a5, A⟩ | ⟨a1, a2, a3, a4, a5, A⟩ <;> rcases signs HY.out with ⟨b1, b2, b3, b4, b5, B⟩ | ⟨b1, b2, b3, b4, b5, B⟩ | ⟨b1, b2, b3, b4, b5, B⟩
  all_goals
    first
    | (exfalso; exact H0.out ⟨A.out, B.out⟩)
    | (go_enter Try.func25, Try.ntmps25
       go_wp2_with fail
       (with_reducible refine (S1.out _).mono ?_)
       rintro e w1 ⟨a, rfl, ha, f1⟩
       have F1 := Lib.hid (F.out.trans f1 (by simp))
       have G1 := Lib.hid ha
       clear f1 ha
       go_wp2_with fail
       (with_reducible refine (S2.out _).mono ?_)
       rintro e w2 ⟨b, rfl, hb, f2⟩
       have F2 := Lib.hid (F1.out.trans f2 (by simp))
       have G2 := Lib.hid hb
       clear f2 hb
       rcases sizes G1.out.1 G2.out.1 with ⟨d1, d2, d3, d4, D⟩ | ⟨d1, d2, d3, d4, D⟩ | ⟨d1, d2, d3, d4, D⟩
       all_goals
         go_wp2_with fail
         go_ret
         refine ⟨?_, F2.out⟩
         have g1 := G1.out.2
         have g2 := G2.out.2
         have k1 := A.out
         have k2 := B.out
         have k3 := D.out
         rw [g1, g2] at k3
         refine congrArg (fun n => Ending.returned (Value.int .i8 n)) ?_
         unfold sec secP
         rw [if_neg (by simp [HX.out, HY.out])]
         repeat' split
         all_goals omega)
theorem refSector_any (w : World) (x y : Nat) : Calls Try.prog 25 #[.agg #[.float .f64 x, .float .f64 y]] w fun e w' => e = .returned (.int .i8 (sec x y)) ∧ Fr [] w w' := by
  cases hx : isNaN x
  case true =>
    rw [show sec x y = -1 by unfold sec; rw [if_pos (.inl hx)]]
    exact refSector_none w x y (.inl (by rw [feq_self, hx]; rfl))
  case false =>
    cases hy : isNaN y
    case true =>
      rw [show sec x y = -1 by unfold sec; rw [if_pos (.inr hy)]]
      exact refSector_none w x y (.inr (.inl (by rw [feq_self, hy]; rfl)))
    case false =>
      by_cases h0 : key x = 0 ∧ key y = 0
      · rw [show sec x y = -1 by unfold sec secP; rw [if_neg (by simp [hx, hy]), if_pos h0]]
        exact refSector_none w x y (.inr (.inr ⟨by rw [feq_zero hx]; exact decide_eq_true h0.1, by rw [feq_zero hy]; exact decide_eq_true h0.2⟩))
      · exact refSector_main w x y hx hy h0
end Go.Proofs.Ytkbcdfniocmamaa
