/-
  The document's Nearest; ways; lengths: by contracts.
-/
import Derived.Test.YtkbcdfniocmamaaFloR
import Derived.Test.YtkbcdfniocmamaaMapJ
import Derived.BigQuiet
namespace Go.Proofs.Ytkbcdfniocmamaa
open Go.RowKit Flo
set_option linter.unusedVariables false

theorem refNaN_any (w : World) (x : Nat) : Calls Try.prog 73 #[.float .f64 x] w fun e w' => e = .returned (.bool (!feq x x)) ∧ w = w' := by
  go_enter Try.func73, Try.ntmps73
  go_wp2
  go_ret
  exact ⟨rfl, rfl⟩
theorem huge_any (w : World) (x : Nat) : Calls Try.prog 74 #[.float .f64 x] w fun e w' => e = .returned (.bool (hugeB x)) ∧ w = w' := by
  have H := Lib.hid (show hugeB x = (fge x 4841369599423283200 || fle x 14064741636278059008) from rfl)
  generalize h1 : fge x 4841369599423283200 = b1 at *
  generalize h2 : fle x 14064741636278059008 = b2 at *
  go_enter Try.func74, Try.ntmps74
  cases b1 with
  | false =>
    go_wp2
    go_ret
    exact ⟨by rw [H.out]; rfl, rfl⟩
  | true =>
    go_wp2
    go_ret
    exact ⟨by rw [H.out]; rfl, rfl⟩
theorem und2 : Try.prog.underlying 2 = some (.int .i64) := by kernel_rfl
theorem down_any (w : World) (x : Nat) (hx : isNaN x = false) (hh : hugeB x = false) : Calls Try.prog 75 #[.float .f64 x] w fun e w' => e = .returned (.int .i64 (downN x)) ∧ w = w' := by
  have c := cut_i64 hx hh
  have CV : ∀ w, (convert 31 2 (.float .f64 x)).run Try.prog w = .ok (.int .i64 (Int.tdiv (key x) U)) w := fun w => run_convert_float_int _ 31 2 .f64 .i64 _ _ und31 und2 c
  have D := down_of hx hh
  obtain ⟨hN, h1, h2⟩ := small_num hx hh
  have S := cut_small h1 h2
  clear c hN h1 h2 hx hh
  generalize Int.tdiv (key x) U = t at *
  generalize downN x = d at *
  cases hb : fgt (fl t) x with
  | false =>
    have hb2 : fgt (floatOfInt .f64 t) x = false := hb
    rw [hb, if_neg (by decide)] at D
    have D2 := Lib.hid D
    clear S D hb
    go_enter Try.func75, Try.ntmps75
    go_wp2
    go_ret
    exact ⟨by rw [← D2.out]; rfl, rfl⟩
  | true =>
    have hb2 : fgt (floatOfInt .f64 t) x = true := hb
    rw [hb, if_pos rfl] at D
    have e1 : wrap64 (t - 1) = t - 1 := IntWalk.wrap64_in _ (by omega)
    have D2 := Lib.hid D
    clear S D hb
    go_enter Try.func75, Try.ntmps75
    go_wp2
    rw [e1]
    go_ret
    exact ⟨by rw [← D2.out]; rfl, rfl⟩
/-! ### the walk of Nearest -/
theorem refNear_nan (w : World) (x : Nat) (h : isNaN x = true) : Calls Try.prog 67 #[.float .f64 x] w (NearOut x w) := by
  have e1 : feq x x = false := by rw [feq_self, h]; rfl
  have E := Lib.hid (show nearV x = 0 ∧ nearE x = 20 from by unfold nearV nearE; rw [if_pos h, if_pos h]; exact ⟨rfl, rfl⟩)
  clear h
  have N := Lib.hid (fun w => refNaN_any w x)
  rw [e1] at N
  clear e1
  go_enter Try.func67, Try.ntmps67
  go_wp2_with (first
    | (go_at_call 73; refine (N.out _).mono ?_; rintro e w9 ⟨rfl, rfl⟩))
  go_ret2
  exact ⟨by rw [E.out.1, E.out.2]; rfl, Fr.refl [] w⟩
theorem refNear_far (w : World) (x : Nat) (h : isNaN x = false) (hh : hugeB x = true) : Calls Try.prog 67 #[.float .f64 x] w (NearOut x w) := by
  have e1 : feq x x = true := by rw [feq_self, h]; rfl
  have E := Lib.hid (near_far h hh)
  clear h
  have N := Lib.hid (fun w => refNaN_any w x)
  have N2 := Lib.hid (fun w => huge_any w x)
  rw [e1] at N
  rw [hh] at N2
  clear e1 hh
  go_enter Try.func67, Try.ntmps67
  go_wp2_with (first
    | (go_at_call 73; refine (N.out _).mono ?_; rintro e w9 ⟨rfl, rfl⟩)
    | (go_at_call 74; refine (N2.out _).mono ?_; rintro e w9 ⟨rfl, rfl⟩))
  go_ret2
  exact ⟨by rw [E.out.1, E.out.2]; rfl, Fr.refl [] w⟩
/-- What the rest says, as one number. -/
theorem rest_re (w : World) {x : Nat} (hx : isNaN x = false) (hh : hugeB x = false) {n : Int} (hn : n = downN x) : let r := subV w x (floatOfInt .f64 n)
    (upB r n = true → (nearE x = if n + 1 < -1073741823 ∨ 1073741823 < n + 1 then 21 else 0) ∧ (nearV x = if n + 1 < -1073741823 ∨ 1073741823 < n + 1 then 0 else n + 1)) ∧
    (upB r n = false → (nearE x = if n < -1073741823 ∨ 1073741823 < n then 21 else 0) ∧ (nearV x = if n < -1073741823 ∨ 1073741823 < n then 0 else n)) := by
  subst hn
  intro r
  have hr : Gives (Ieee.double.sub x (fl (downN x))) r := subV_gives w x (fl (downN x))
  have k := parts_re hx hh hr
  have k2 := near_re hx (small_num hx hh).1 k
  generalize upB r (downN x) = u at *
  exact ⟨fun h => by rw [h] at k2; exact k2, fun h => by rw [h] at k2; exact k2⟩
end Go.Proofs.Ytkbcdfniocmamaa
