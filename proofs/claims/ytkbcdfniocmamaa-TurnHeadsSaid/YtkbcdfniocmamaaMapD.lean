/-
  Same, by contract.
-/
import Derived.Test.YtkbcdfniocmamaaMapC
namespace Go.Proofs.Ytkbcdfniocmamaa
open Go.RowKit Flo
set_option linter.unusedVariables false

set_option maxHeartbeats 8000000 in
theorem same_any (w : World) (a b c d a' b' c' d' : Nat) : Calls Try.prog 22 #[.agg #[.complex .f64 a b, .complex .f64 c d], .agg #[.complex .f64 a' b', .complex .f64 c' d']] w fun e w' => e = .returned (.bool (mapB a b c d a' b' c' d')) ∧ Fr [] w w' := by
  have h0 := (Blk.new w #[.complex .f64 a b, .complex .f64 c d] 28).alloc (.cells #[.complex .f64 a' b', .complex .f64 c' d'] 28)
  have h1 := Blk.new_at (w := w.alloc (.cells #[.complex .f64 a b, .complex .f64 c d] 28)) (k := w.heap.size + 1) (by simp) #[.complex .f64 a' b', .complex .f64 c' d'] 28
  have f0 := ((Fr.refl [] w).alloc (.cells #[.complex .f64 a b, .complex .f64 c d] 28)).alloc (.cells #[.complex .f64 a' b', .complex .f64 c' d'] 28)
  obtain ⟨z0, hz0⟩ : ∃ z, z = w.heap.size := ⟨_, rfl⟩
  rw [← hz0] at h0 h1
  have H := Lib.hid (And.intro h0 (And.intro h1 f0))
  have E := Lib.hid (show mapB a b c d a' b' c' d' = ((alikeB a a' && alikeB b b') && (alikeB c c' && alikeB d d')) from rfl)
  have Q1 := Lib.hid (fun w => show Calls Try.prog 55 #[.float .f64 a, .float .f64 a'] w fun e w' => e = .returned (.bool (alikeB a a')) ∧ w' = w from (alike_any w a a').mono fun _ _ h => ⟨h.1, h.2.symm⟩)
  have Q2 := Lib.hid (fun w => show Calls Try.prog 55 #[.float .f64 b, .float .f64 b'] w fun e w' => e = .returned (.bool (alikeB b b')) ∧ w' = w from (alike_any w b b').mono fun _ _ h => ⟨h.1, h.2.symm⟩)
  have Q3 := Lib.hid (fun w => show Calls Try.prog 55 #[.float .f64 c, .float .f64 c'] w fun e w' => e = .returned (.bool (alikeB c c')) ∧ w' = w from (alike_any w c c').mono fun _ _ h => ⟨h.1, h.2.symm⟩)
  have Q4 := Lib.hid (fun w => show Calls Try.prog 55 #[.float .f64 d, .float .f64 d'] w fun e w' => e = .returned (.bool (alikeB d d')) ∧ w' = w from (alike_any w d d').mono fun _ _ h => ⟨h.1, h.2.symm⟩)
  have QR := Lib.hid (fun w x y => show Calls Try.prog 56 #[.complex .f64 x y] w fun e w' => e = .returned (.float .f64 x) ∧ w' = w from (re_any w x y).mono fun _ _ h => ⟨h.1, h.2.symm⟩)
  clear h0 h1 f0
  generalize alikeB a a' = b1 at *
  generalize alikeB b b' = b2 at *
  generalize alikeB c c' = b3 at *
  generalize alikeB d d' = b4 at *
  go_enter Try.func22, Try.ntmps22
  go_wp2_with fail
  simp only [← hz0]
  clear hz0
  generalize (World.alloc (World.alloc w _) _) = w0v at *
  obtain ⟨w0, hw0⟩ : ∃ w0, w0 = w0v := ⟨_, rfl⟩
  rw [← hw0] at H
  rw [← hw0]
  clear hw0
  have c0 := H.out.1.at 0 (v := .complex .f64 a b) rfl
  have c1 := H.out.1.at 1 (v := .complex .f64 c d) rfl
  have k0 := H.out.2.1.at 0 (v := .complex .f64 a' b') rfl
  have k1 := H.out.2.1.at 1 (v := .complex .f64 c' d') rfl
  cases b1 <;> cases b2 <;> cases b3
  all_goals
    go_quiet (first
      | (go_at_call 56; exact Calls.quiet_of_same (QR.out _ _ _))
      | (go_at_call_of 55 (Value.float FloatKind.f64 a); exact Calls.quiet_of_same (Q1.out _))
      | (go_at_call_of 55 (Value.float FloatKind.f64 b); exact Calls.quiet_of_same (Q2.out _))
      | (go_at_call_of 55 (Value.float FloatKind.f64 c); exact Calls.quiet_of_same (Q3.out _))
      | (go_at_call_of 55 (Value.float FloatKind.f64 d); exact Calls.quiet_of_same (Q4.out _)))
    go_wp2
    go_ret
    exact ⟨by rw [E.out]; rfl, H.out.2.2.drewN _⟩
end Go.Proofs.Ytkbcdfniocmamaa
