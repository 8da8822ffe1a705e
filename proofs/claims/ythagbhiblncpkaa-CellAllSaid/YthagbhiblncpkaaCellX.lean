/-
  The document's Count.
-/
import Derived.Test.YthagbhiblncpkaaCellV
import Derived.Test.YthagbhiblncpkaaCellP
import Derived.BigQuiet
import Derived.Deep.CutBlock
namespace Go.Proofs.Ythagbhiblncpkaa
open Go.RowKit
set_option linter.unusedVariables false
attribute [local go_sem] Oper.semAt_some

set_option maxRecDepth 100000 in
theorem refCount_any (w : World) (a b c d s : Int) : Calls Try.prog 21 #[bx a b c d, .int .i64 s] w fun e w' => e = .returned (.int .i64 (cnt a b c d s)) ∧ Fr [] w w' := by
  have h0 : Fr [] w (w.alloc (.cells #[.int .i32 a, .int .i32 b, .int .i32 c, .int .i32 d] 39)) := (Fr.refl [] w).alloc _
  have HF := Lib.hid h0
  have BB := Blk.new w #[.int .i32 a, .int .i32 b, .int .i32 c, .int .i32 d] 39
  clear h0
  cases h1 : fits s with
  | false =>
    have H1 := Lib.hid h1
    clear h1 BB
    go_enter Try.func21, Try.ntmps21
    go_wp2_with fail
    (with_reducible refine (fits_any _ _).mono ?_)
    rintro e w1 ⟨rfl, rfl⟩
    rw [H1.out]
    go_wp2
    go_ret
    exact ⟨by unfold cnt; rw [if_neg (by rw [H1.out]; simp)]; rfl, HF.out⟩
  | true =>
    cases h2 : boxOk a b c d with
    | false =>
      have H1 := Lib.hid h1
      have H2 := Lib.hid h2
      clear h1 h2 BB
      go_enter Try.func21, Try.ntmps21
      go_wp2_with fail
      (with_reducible refine (fits_any _ _).mono ?_)
      rintro e w1 ⟨rfl, rfl⟩
      rw [H1.out]
      go_wp2_with fail
      (with_reducible refine (right_any _ _ _ _ _).mono ?_)
      rintro e w1 ⟨rfl, fr1⟩
      rw [H2.out]
      have HF2 := Lib.hid (HF.out.trans fr1 (by simp))
      clear fr1
      go_wp2
      go_ret
      exact ⟨by unfold cnt; rw [if_neg (by rw [H2.out]; simp)]; rfl, HF2.out⟩
    | true =>
      have H1 := Lib.hid h1
      have H2 := Lib.hid h2
      obtain ⟨s1, s2⟩ := fits_iff.1 h1
      obtain ⟨i1, i2, g1, g2⟩ := boxOk_iff.1 h2
      obtain ⟨ax1, ax2, ay1, ay2⟩ : -1073741823 ≤ a ∧ a ≤ 1073741823 ∧ -1073741823 ≤ b ∧ b ≤ 1073741823 := of_decide_eq_true i1
      obtain ⟨cx1, cx2, cy1, cy2⟩ : -1073741823 ≤ c ∧ c ≤ 1073741823 ∧ -1073741823 ≤ d ∧ d ≤ 1073741823 := of_decide_eq_true i2
      have DA := downed a s s1 s2 (by unfold I32; omega)
      have DB := downed b s s1 s2 (by unfold I32; omega)
      have DC := downed c s s1 s2 (by unfold I32; omega)
      have DD := downed d s s1 s2 (by unfold I32; omega)
      have va' := wr (x := a) (by omega)
      have vb' := wr (x := b) (by omega)
      have vc' := wr (x := c) (by omega)
      have vd' := wr (x := d) (by omega)
      have va : wrap64 a = a := w64 (by omega)
      have vb : wrap64 b = b := w64 (by omega)
      have vc : wrap64 c = c := w64 (by omega)
      have vd : wrap64 d = d := w64 (by omega)
      have q1 := ediv_bd a s 1073741823 (by omega) (by omega) (by omega) (by omega)
      have q2 := ediv_bd b s 1073741823 (by omega) (by omega) (by omega) (by omega)
      have q3 := ediv_bd c s 1073741823 (by omega) (by omega) (by omega) (by omega)
      have q4 := ediv_bd d s 1073741823 (by omega) (by omega) (by omega) (by omega)
      have wx1 := w64 (x := c / s - a / s) (by omega)
      have wx2 := w64 (x := c / s - a / s + 1) (by omega)
      have wy1 := w64 (x := d / s - b / s) (by omega)
      have wy2 := w64 (x := d / s - b / s + 1) (by omega)
      have HQ := Lib.hid (And.intro q1 (And.intro q2 (And.intro q3 (And.intro q4 (And.intro (Int.ediv_le_ediv (a := a) (b := c) (c := s) (by omega) g1) (Int.ediv_le_ediv (a := b) (b := d) (c := s) (by omega) g2))))))
      have BH := Lib.hid BB
      clear h1 h2 BB i1 i2 g1 g2 ax1 ax2 ay1 ay2 cx1 cx2 cy1 cy2 s1 s2 q1 q2 q3 q4
      go_enter Try.func21, Try.ntmps21
      go_wp2_with fail
      (with_reducible refine (fits_any _ _).mono ?_)
      rintro e w1 ⟨rfl, rfl⟩
      rw [H1.out]
      go_wp2_with fail
      (with_reducible refine (right_any _ _ _ _ _).mono ?_)
      rintro e w1 ⟨rfl, fr1⟩
      rw [H2.out]
      have HF2 := Lib.hid (HF.out.trans fr1 (by simp))
      have B2 := fr1.blk BH.out (by simp)
      have c0 := B2.at 0 (v := .int .i32 a) rfl
      have c1 := B2.at 1 (v := .int .i32 b) rfl
      have c2 := B2.at 2 (v := .int .i32 c) rfl
      have c3 := B2.at 3 (v := .int .i32 d) rfl
      clear fr1 B2
      go_wp2_with fail
      go_quiet ((first
        | (go_at_call_of 35 (Value.int IntKind.i64 c); with_reducible exact Calls.quiet_of_same (DC.on _))
        | (go_at_call_of 35 (Value.int IntKind.i64 a); with_reducible exact Calls.quiet_of_same (DA.on _))))
      go_wp2_with fail
      go_quiet ((first
        | (go_at_call_of 35 (Value.int IntKind.i64 d); with_reducible exact (DD.on _).mono fun _ _ h => ⟨h.1, _, h.2⟩)
        | (go_at_call_of 35 (Value.int IntKind.i64 b); with_reducible exact (DB.on _).mono fun _ _ h => ⟨h.1, _, h.2⟩)))
      go_wp2
      go_ret
      have hw : wrap64 ((c / s - a / s + 1) * (d / s - b / s + 1)) = cnt a b c d s := by
        rw [show cnt a b c d s = (c / s - a / s + 1) * (d / s - b / s + 1) from if_pos ⟨H1.out, H2.out⟩]
        obtain ⟨q1, q2, q3, q4, q5, q6⟩ := HQ.out
        have m1 := Int.mul_le_mul (a := c / s - a / s + 1) (b := d / s - b / s + 1) (c := 2147483647) (d := 2147483647) (by omega) (by omega) (by omega) (by omega)
        have m2 := Int.mul_nonneg (a := c / s - a / s + 1) (b := d / s - b / s + 1) (by omega) (by omega)
        exact w64 (by omega)
      exact ⟨by rw [← hw]; rfl, HF2.out.drewN _⟩
end Go.Proofs.Ythagbhiblncpkaa
