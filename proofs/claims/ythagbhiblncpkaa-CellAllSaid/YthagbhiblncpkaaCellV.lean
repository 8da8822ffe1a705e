/-
  Square of a cell.
-/
import Derived.Test.YthagbhiblncpkaaCellO
import Derived.Test.YthagbhiblncpkaaCellC
import Derived.BigQuiet
import Derived.Deep.CutBlock
namespace Go.Proofs.Ythagbhiblncpkaa
open Go.RowKit
set_option linter.unusedVariables false
attribute [local go_sem] Oper.semAt_some

theorem mul_bd {x s : Int} (hx : I32 x) (h1 : 1 ≤ s) (h2 : s ≤ 2147483648) : -4611686018427387904 ≤ x * s ∧ x * s ≤ 4611686018427387904 := by
  unfold I32 at hx
  have a := Int.mul_le_mul_of_nonneg_right hx.1 (show (0 : Int) ≤ s by omega)
  have b := Int.mul_le_mul_of_nonneg_right hx.2 (show (0 : Int) ≤ s by omega)
  omega
theorem w64 {x : Int} (h : -9223372036854775808 ≤ x ∧ x ≤ 9223372036854775807) : wrap64 x = x := by
  have := wr h
  rw [IntKind.wrap_i64] at this
  unfold wrap64
  omega
/-- The bounds of a cell's points. -/
def loB (p : Int) : Int := if p < -1073741823 then -1073741823 else p
def hiB (p s : Int) : Int := if 1073741823 < p + s - 1 then 1073741823 else p + s - 1
theorem loB_ge (p : Int) : -1073741823 ≤ loB p := by unfold loB; split <;> omega
theorem hiB_le (p s : Int) : hiB p s ≤ 1073741823 := by unfold hiB; split <;> omega
def sqOk (x y s : Int) : Bool := fits s && (decide (loB (x * s) ≤ hiB (x * s) s) && decide (loB (y * s) ≤ hiB (y * s) s))
def sqV (x y s : Int) : Value := if sqOk x y s then .tuple #[bx (loB (x * s)) (loB (y * s)) (hiB (x * s) s) (hiB (y * s) s), .bool true] else .tuple #[bx 0 0 0 0, .bool false]

set_option maxRecDepth 100000 in
theorem square_any (w : World) (x y s : Int) (hx : I32 x) (hy : I32 y) : Calls Try.prog 18 #[pt x y, .int .i64 s] w fun e w' => e = .returned (sqV x y s) ∧ Fr [] w w' := by
  have h0 : Fr [] w ((w.alloc (.cells #[.int .i32 x, .int .i32 y] 33)).alloc (.cells #[.int .i32 0, .int .i32 0, .int .i32 0, .int .i32 0] 39)) := ((Fr.refl [] w).alloc _).alloc _
  have HF := Lib.hid h0
  clear h0
  cases h1 : fits s with
  | false =>
    have H1 := Lib.hid h1
    clear h1
    go_enter Try.func18, Try.ntmps18
    go_wp2_with fail
    (with_reducible refine (isSize_any _ _).mono ?_)
    rintro e w1 ⟨rfl, rfl⟩
    rw [H1.out]
    have cb := Blk.new_at (w := w.alloc (.cells #[.int .i32 x, .int .i32 y] 33)) (k := w.heap.size + 1) (by simp) #[.int .i32 0, .int .i32 0, .int .i32 0, .int .i32 0] 39
    have c0 := cb.at 0 (v := .int .i32 0) rfl
    have c1 := cb.at 1 (v := .int .i32 0) rfl
    have c2 := cb.at 2 (v := .int .i32 0) rfl
    have c3 := cb.at 3 (v := .int .i32 0) rfl
    go_wp2
    refine bodyPost_ret (v := .tuple #[.agg #[.int .i32 0, .int .i32 0, .int .i32 0, .int .i32 0], .bool false]) (by simp [results, Try.results18, go_sem]) rfl ⟨by unfold sqV sqOk; rw [H1.out]; simp, HF.out⟩
  | true =>
    obtain ⟨s1, s2⟩ := fits_iff.1 h1
    obtain ⟨p1, p2⟩ := mul_bd hx s1 s2
    obtain ⟨q1, q2⟩ := mul_bd hy s1 s2
    have H1 := Lib.hid h1
    clear h1
    go_enter Try.func18, Try.ntmps18
    go_wp2_with fail
    (with_reducible refine (isSize_any _ _).mono ?_)
    rintro e w1 ⟨rfl, rfl⟩
    rw [H1.out]
    have vx : wrap64 x = x := w64 (by unfold I32 at hx; omega)
    have vy : wrap64 y = y := w64 (by unfold I32 at hy; omega)
    have wp1 := w64 (x := x * s) (by omega)
    have wq1 := w64 (x := y * s) (by omega)
    have wp2 := w64 (x := x * s + s) (by omega)
    have wq2 := w64 (x := y * s + s) (by omega)
    have wp3 := w64 (x := x * s + s - 1) (by omega)
    have wq3 := w64 (x := y * s + s - 1) (by omega)
    go_wp2_with fail
    go_quiet (fail)
    go_upto_region 6 with fail
    clear vx vy wp1 wp2 wp3 wq1 wq2 wq3 p1 p2 q1 q2 hx hy
    have e1 : (if x * s < -1073741823 then -1073741823 else x * s) = loB (x * s) := rfl
    have e2 : (if y * s < -1073741823 then -1073741823 else y * s) = loB (y * s) := rfl
    have e3 : (if 1073741823 < x * s + s - 1 then 1073741823 else x * s + s - 1) = hiB (x * s) s := rfl
    have e4 : (if 1073741823 < y * s + s - 1 then 1073741823 else y * s + s - 1) = hiB (y * s) s := rfl
    simp only [e1, e2, e3, e4]
    clear e1 e2 e3 e4
    have hv : sqV x y s = if (decide (loB (x * s) ≤ hiB (x * s) s) && decide (loB (y * s) ≤ hiB (y * s) s)) = true then .tuple #[bx (loB (x * s)) (loB (y * s)) (hiB (x * s) s) (hiB (y * s) s), .bool true] else .tuple #[bx 0 0 0 0, .bool false] := by
      unfold sqV sqOk
      rw [H1.out]
      simp
    have HV := Lib.hid hv
    clear hv
    have b1 := loB_ge (x * s)
    have b2 := loB_ge (y * s)
    have b3 := hiB_le (x * s) s
    have b4 := hiB_le (y * s) s
    generalize loB (x * s) = lx at *
    generalize loB (y * s) = ly at *
    generalize hiB (x * s) s = ux at *
    generalize hiB (y * s) s = uy at *
    generalize x * s = xs at *
    generalize y * s = ys at *
    have cb := (Blk.new_at (w := w.alloc (.cells #[.int .i32 x, .int .i32 y] 33)) (k := w.heap.size + 1) (by simp) #[.int .i32 0, .int .i32 0, .int .i32 0, .int .i32 0] 39).drewN nq
    have c0 := cb.at 0 (v := .int .i32 0) rfl
    have c1 := cb.at 1 (v := .int .i32 0) rfl
    have c2 := cb.at 2 (v := .int .i32 0) rfl
    have c3 := cb.at 3 (v := .int .i32 0) rfl
    by_cases h1 : lx ≤ ux
    · by_cases h2 : ly ≤ uy
      · have v1 : IntKind.i32.wrap lx = lx := by rw [IntKind.wrap_i32]; omega
        have v2 : IntKind.i32.wrap ly = ly := by rw [IntKind.wrap_i32]; omega
        have v3 : IntKind.i32.wrap ux = ux := by rw [IntKind.wrap_i32]; omega
        have v4 : IntKind.i32.wrap uy = uy := by rw [IntKind.wrap_i32]; omega
        have hv : sqV x y s = .tuple #[bx lx ly ux uy, .bool true] := by rw [HV.out, if_pos (by simp [h1, h2])]
        have HV2 := Lib.hid hv
        have CB := Lib.hid cb
        clear hv b1 b2 b3 b4 cb
        go_wp2
        have cb := (((CB.out.set 0 (.int .i32 lx)).set 1 (.int .i32 ly)).set 2 (.int .i32 ux)).set 3 (.int .i32 uy)
        have c0 := cb.at 0 (v := .int .i32 lx) rfl
        have c1 := cb.at 1 (v := .int .i32 ly) rfl
        have c2 := cb.at 2 (v := .int .i32 ux) rfl
        have c3 := cb.at 3 (v := .int .i32 uy) rfl
        refine bodyPost_ret (v := .tuple #[.agg #[.int .i32 lx, .int .i32 ly, .int .i32 ux, .int .i32 uy], .bool true]) (by simp [results, Try.results18, go_sem, c0, c1, c2, c3]) rfl ⟨by rw [HV2.out], ((((HF.out.drewN nq).setCell _ _ (.inr (by simp))).setCell _ _ (.inr (by simp))).setCell _ _ (.inr (by simp))).setCell _ _ (.inr (by simp))⟩
      · have hv : sqV x y s = .tuple #[bx 0 0 0 0, .bool false] := by rw [HV.out, if_neg (by simp [h1, h2])]
        have HV2 := Lib.hid hv
        have CB := Lib.hid cb
        clear hv b1 b2 b3 b4 cb
        go_wp2
        have cb := (((CB.out.set 0 (.int .i32 0)).set 1 (.int .i32 0)).set 2 (.int .i32 0)).set 3 (.int .i32 0)
        have c0 := cb.at 0 (v := .int .i32 0) rfl
        have c1 := cb.at 1 (v := .int .i32 0) rfl
        have c2 := cb.at 2 (v := .int .i32 0) rfl
        have c3 := cb.at 3 (v := .int .i32 0) rfl
        refine bodyPost_ret (v := .tuple #[.agg #[.int .i32 0, .int .i32 0, .int .i32 0, .int .i32 0], .bool false]) (by simp [results, Try.results18, go_sem, c0, c1, c2, c3]) rfl ⟨by rw [HV2.out], ((((HF.out.drewN nq).setCell _ _ (.inr (by simp))).setCell _ _ (.inr (by simp))).setCell _ _ (.inr (by simp))).setCell _ _ (.inr (by simp))⟩
    · have hv : sqV x y s = .tuple #[bx 0 0 0 0, .bool false] := by rw [HV.out, if_neg (by simp [h1])]
      have HV2 := Lib.hid hv
      have CB := Lib.hid cb
      clear hv b1 b2 b3 b4 cb
      go_wp2
      have cb := (((CB.out.set 0 (.int .i32 0)).set 1 (.int .i32 0)).set 2 (.int .i32 0)).set 3 (.int .i32 0)
      have c0 := cb.at 0 (v := .int .i32 0) rfl
      have c1 := cb.at 1 (v := .int .i32 0) rfl
      have c2 := cb.at 2 (v := .int .i32 0) rfl
      have c3 := cb.at 3 (v := .int .i32 0) rfl
      refine bodyPost_ret (v := .tuple #[.agg #[.int .i32 0, .int .i32 0, .int .i32 0, .int .i32 0], .bool false]) (by simp [results, Try.results18, go_sem, c0, c1, c2, c3]) rfl ⟨by rw [HV2.out], ((((HF.out.drewN nq).setCell _ _ (.inr (by simp))).setCell _ _ (.inr (by simp))).setCell _ _ (.inr (by simp))).setCell _ _ (.inr (by simp))⟩
end Go.Proofs.Ythagbhiblncpkaa
