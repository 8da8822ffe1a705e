/-
  Alike, num, numMap, of, similar, Unit, by contracts.
-/
import Derived.Test.YtkbcdfniocmamaaMapA
namespace Go.Proofs.Ytkbcdfniocmamaa
open Go.RowKit Flo
set_option linter.unusedVariables false

theorem alike_any (w : World) (x y : Nat) : Calls Try.prog 55 #[.float .f64 x, .float .f64 y] w fun e w' => e = .returned (.bool (alikeB x y)) ∧ w = w' := by
  cases h1 : feq x y <;> cases h2 : feq x x <;> cases h3 : feq y y
  all_goals
    have H := Lib.hid (show alikeB x y = (feq x y || (!feq x x && !feq y y)) from rfl)
    have HE := Lib.hid (And.intro h1 (And.intro h2 h3))
    go_enter Try.func55, Try.ntmps55
    go_wp2
    go_ret
    exact ⟨by rw [H.out, HE.out.1, HE.out.2.1, HE.out.2.2]; rfl, rfl⟩
theorem refAlike_any (w : World) (x y : Nat) : Calls Try.prog 69 #[.float .f64 x, .float .f64 y] w fun e w' => e = .returned (.bool (alikeB x y)) ∧ w = w' := by
  cases h1 : feq x y <;> cases h2 : feq x x <;> cases h3 : feq y y
  all_goals
    have H := Lib.hid (show alikeB x y = (feq x y || (!feq x x && !feq y y)) from rfl)
    have HE := Lib.hid (And.intro h1 (And.intro h2 h3))
    go_enter Try.func69, Try.ntmps69
    go_wp2
    go_ret
    exact ⟨by rw [H.out, HE.out.1, HE.out.2.1, HE.out.2.2]; rfl, rfl⟩
theorem alikeNum_any (w : World) (a b c d : Nat) : Calls Try.prog 40 #[.agg #[.float .f64 a, .float .f64 b], .agg #[.float .f64 c, .float .f64 d]] w fun e w' => e = .returned (.bool (alikeB a c && alikeB b d)) ∧ Fr [] w w' := by
  have F := Lib.hid (((Fr.refl [] w).alloc (.cells #[.float .f64 a, .float .f64 b] 33)).alloc (.cells #[.float .f64 c, .float .f64 d] 33))
  have H1 := Lib.hid (fun w => refAlike_any w a c)
  have H2 := Lib.hid (fun w => refAlike_any w b d)
  generalize alikeB a c = b1 at *
  generalize alikeB b d = b2 at *
  go_enter Try.func40, Try.ntmps40
  cases b1 with
  | false =>
    go_wp2_with fail
    (with_reducible refine (H1.out _).mono ?_)
    rintro e w1 ⟨rfl, rfl⟩
    go_wp2_with fail
    go_ret
    exact ⟨rfl, F.out⟩
  | true =>
    go_wp2_with fail
    (with_reducible refine (H1.out _).mono ?_)
    rintro e w1 ⟨rfl, rfl⟩
    go_wp2_with fail
    (with_reducible refine (H2.out _).mono ?_)
    rintro e w1 ⟨rfl, rfl⟩
    go_wp2_with fail
    go_ret
    exact ⟨rfl, F.out⟩
/-- Two similarities that are alike. -/
def mapB (a b c d a' b' c' d' : Nat) : Bool := (alikeB a a' && alikeB b b') && (alikeB c c' && alikeB d d')
theorem alikeMapR_any (w : World) (a b c d a' b' c' d' : Nat) : Calls Try.prog 23 #[.agg #[.float .f64 a, .float .f64 b, .float .f64 c, .float .f64 d], .agg #[.float .f64 a', .float .f64 b', .float .f64 c', .float .f64 d']] w fun e w' => e = .returned (.bool (mapB a b c d a' b' c' d')) ∧ Fr [] w w' := by
  have h0 := ((Blk.new w #[.float .f64 a, .float .f64 b, .float .f64 c, .float .f64 d] 35).alloc (.cells #[.float .f64 a', .float .f64 b', .float .f64 c', .float .f64 d'] 35))
  have h1 := Blk.new_at (w := w.alloc (.cells #[.float .f64 a, .float .f64 b, .float .f64 c, .float .f64 d] 35)) (k := w.heap.size + 1) (by simp) #[.float .f64 a', .float .f64 b', .float .f64 c', .float .f64 d'] 35
  have F := Lib.hid (And.intro (((Fr.refl [] w).alloc (.cells #[.float .f64 a, .float .f64 b, .float .f64 c, .float .f64 d] 35)).alloc (.cells #[.float .f64 a', .float .f64 b', .float .f64 c', .float .f64 d'] 35)) (And.intro h0 h1))
  have H1 := Lib.hid (fun w => alikeNum_any w a b a' b')
  have H2 := Lib.hid (fun w => alikeNum_any w c d c' d')
  unfold mapB
  clear h0 h1
  generalize (alikeB a a' && alikeB b b') = b1 at *
  generalize (alikeB c c' && alikeB d d') = b2 at *
  go_enter Try.func23, Try.ntmps23
  cases b1 with
  | false =>
    go_wp2_with fail
    (with_reducible refine (H1.out _).mono ?_)
    rintro e w1 ⟨rfl, f1⟩
    have F1 := Lib.hid (F.out.1.trans f1 (by simp))
    clear f1
    go_wp2_with fail
    go_ret
    exact ⟨rfl, F1.out⟩
  | true =>
    go_wp2_with fail
    (with_reducible refine (H1.out _).mono ?_)
    rintro e w1 ⟨rfl, f1⟩
    have F1 := Lib.hid (F.out.1.trans f1 (by simp))
    have k0 := f1.blk F.out.2.1 (by simp)
    have k1 := f1.blk F.out.2.2 (by simp)
    have c2 := k0.at 2 (v := .float .f64 c) rfl
    have c3 := k0.at 3 (v := .float .f64 d) rfl
    have d2 := k1.at 2 (v := .float .f64 c') rfl
    have d3 := k1.at 3 (v := .float .f64 d') rfl
    clear f1 k0 k1
    go_wp2_with fail
    (with_reducible refine (H2.out _).mono ?_)
    rintro e w2 ⟨rfl, f2⟩
    have F2 := Lib.hid (F1.out.trans f2 (by simp))
    clear f2
    go_wp2_with fail
    go_ret
    exact ⟨rfl, F2.out⟩
theorem num_any (w : World) (a b : Nat) : Calls Try.prog 15 #[.complex .f64 a b] w fun e w' => e = .returned (.agg #[.float .f64 a, .float .f64 b]) ∧ Fr [] w w' := by
  have h := Blk.new w #[.float .f64 a, .float .f64 b] 33
  have h0 := h.at 0 (v := .float .f64 a) rfl
  have h1 := h.at 1 (v := .float .f64 b) rfl
  have H := Lib.hid (And.intro h0 h1)
  clear h h0 h1
  go_enter Try.func15, Try.ntmps15
  go_wp2
  exact bodyPost_ret (ret_pair rfl rfl H.out.1 H.out.2) rfl ⟨rfl, (Fr.refl [] w).alloc _⟩
theorem of_any (w : World) (a b : Nat) : Calls Try.prog 10 #[.int .u64 a, .int .u64 b] w fun e w' => e = .returned (.complex .f64 a b) ∧ w = w' := by
  go_enter Try.func10, Try.ntmps10
  go_wp2
  go_ret
  exact ⟨by simp, rfl⟩
theorem unit_any (w : World) : Calls Try.prog 21 #[] w fun e w' => e = .returned (.agg #[.complex .f64 4607182418800017408 0, .complex .f64 0 0]) ∧ Fr [] w w' := by
  have h := Blk.new w #[.complex .f64 4607182418800017408 0, .complex .f64 0 0] 28
  have H := Lib.hid (And.intro (h.at 0 (v := .complex .f64 4607182418800017408 0) rfl) (h.at 1 (v := .complex .f64 0 0) rfl))
  clear h
  go_enter Try.func21, Try.ntmps21
  go_wp2
  exact bodyPost_ret (ret_sim rfl rfl H.out.1 H.out.2) rfl ⟨rfl, (Fr.refl [] w).alloc _⟩
end Go.Proofs.Ytkbcdfniocmamaa
