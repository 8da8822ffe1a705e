/-
  The document's Square.
-/
import Derived.Test.YthagbhiblncpkaaCellV
import Derived.BigQuiet
import Derived.Deep.CutBlock
import Derived.Deep.DeepCutAuto
namespace Go.Proofs.Ythagbhiblncpkaa
open Go.RowKit
set_option linter.unusedVariables false
attribute [local go_sem] Oper.semAt_some

set_option maxRecDepth 100000 in
set_option maxHeartbeats 4000000 in
theorem refSquare_any (w : World) (x y s : Int) (hx : I32 x) (hy : I32 y) : Calls Try.prog 19 #[pt x y, .int .i64 s] w fun e w' => e = .returned (sqV x y s) ∧ Fr [] w w' := by
  have h0 : Fr [] w ((w.alloc (.cells #[.int .i32 x, .int .i32 y] 33)).alloc (.cells #[.int .i32 0, .int .i32 0, .int .i32 0, .int .i32 0] 39)) := ((Fr.refl [] w).alloc _).alloc _
  have HF := Lib.hid h0
  clear h0
  cases h1 : fits s with
  | false =>
    have H1 := Lib.hid h1
    clear h1
    go_enter Try.func19, Try.ntmps19
    go_wp2_with fail
    (with_reducible refine (fits_any _ _).mono ?_)
    rintro e w1 ⟨rfl, rfl⟩
    rw [H1.out]
    have cb := Blk.new_at (w := w.alloc (.cells #[.int .i32 x, .int .i32 y] 33)) (k := w.heap.size + 1) (by simp) #[.int .i32 0, .int .i32 0, .int .i32 0, .int .i32 0] 39
    have c0 := cb.at 0 (v := .int .i32 0) rfl
    have c1 := cb.at 1 (v := .int .i32 0) rfl
    have c2 := cb.at 2 (v := .int .i32 0) rfl
    have c3 := cb.at 3 (v := .int .i32 0) rfl
    go_wp2
    refine bodyPost_ret (v := .tuple #[.agg #[.int .i32 0, .int .i32 0, .int .i32 0, .int .i32 0], .bool false]) (by simp [results, Try.results19, go_sem]) rfl ⟨by unfold sqV sqOk; rw [H1.out]; simp, HF.out⟩
  | true =>
    obtain ⟨s1, s2⟩ := fits_iff.1 h1
    obtain ⟨p1, p2⟩ := mul_bd hx s1 s2
    obtain ⟨q1, q2⟩ := mul_bd hy s1 s2
    have H1 := Lib.hid h1
    clear h1
    go_enter Try.func19, Try.ntmps19
    go_wp2_with fail
    (with_reducible refine (fits_any _ _).mono ?_)
    rintro e w1 ⟨rfl, rfl⟩
    rw [H1.out]
    have vx : wrap64 x = x := w64 (by unfold I32 at hx; omega)
    have vy : wrap64 y = y := w64 (by unfold I32 at hy; omega)
    have wp1 := w64 (x := x * s) (by omega)
    have wq1 := w64 (x := y * s) (by omega)
    have wp2 := w64 (x := x * s + s) (by omega)
    have wq2 := w64 (x := y * s + s) (by omega)
    have wp3 := w64 (x := x * s + s - 1) (by omega)
    have wq3 := w64 (x := y * s + s - 1) (by omega)
    go_wp2_with fail
    obtain ⟨z6, hz6⟩ : ∃ z, z = w.heap.size + 1 + 1 := ⟨_, rfl⟩
    obtain ⟨z7, hz7⟩ : ∃ z, z = w.heap.size + 1 + 1 + 1 := ⟨_, rfl⟩
    obtain ⟨zr, hzr⟩ : ∃ z, z = w.heap.size + 1 := ⟨_, rfl⟩
    have B6 : Blk ((((w.alloc (.cells #[.int .i32 x, .int .i32 y] 33)).alloc (.cells #[.int .i32 0, .int .i32 0, .int .i32 0, .int .i32 0] 39)).alloc (.cells #[.int .i64 (x * s), .int .i64 (y * s)] 68)).alloc (.cells #[.int .i64 (x * s + s - 1), .int .i64 (y * s + s - 1)] 68)) z6 #[.int .i64 (x * s), .int .i64 (y * s)] 68 := (Blk.new_at (by simp [hz6]) _ _).alloc _
    have B7 : Blk ((((w.alloc (.cells #[.int .i32 x, .int .i32 y] 33)).alloc (.cells #[.int .i32 0, .int .i32 0, .int .i32 0, .int .i32 0] 39)).alloc (.cells #[.int .i64 (x * s), .int .i64 (y * s)] 68)).alloc (.cells #[.int .i64 (x * s + s - 1), .int .i64 (y * s + s - 1)] 68)) z7 #[.int .i64 (x * s + s - 1), .int .i64 (y * s + s - 1)] 68 := Blk.new_at (by simp [hz7]) _ _
    have BR : Blk ((((w.alloc (.cells #[.int .i32 x, .int .i32 y] 33)).alloc (.cells #[.int .i32 0, .int .i32 0, .int .i32 0, .int .i32 0] 39)).alloc (.cells #[.int .i64 (x * s), .int .i64 (y * s)] 68)).alloc (.cells #[.int .i64 (x * s + s - 1), .int .i64 (y * s + s - 1)] 68)) zr #[.int .i32 0, .int .i32 0, .int .i32 0, .int .i32 0] 39 := ((Blk.new_at (by simp [hzr]) _ _).alloc _).alloc _
    have hF := (HF.out.alloc (.cells #[.int .i64 (x * s), .int .i64 (y * s)] 68)).alloc (.cells #[.int .i64 (x * s + s - 1), .int .i64 (y * s + s - 1)] 68)
    have hv : sqV x y s = if (decide (loB (x * s) ≤ hiB (x * s) s) && decide (loB (y * s) ≤ hiB (y * s) s)) = true then .tuple #[bx (loB (x * s)) (loB (y * s)) (hiB (x * s) s) (hiB (y * s) s), .bool true] else .tuple #[bx 0 0 0 0, .bool false] := by
      unfold sqV sqOk
      rw [H1.out]
      simp
    have HV := Lib.hid hv
    have b1 := loB_ge (x * s)
    have b2 := loB_ge (y * s)
    have b3 := hiB_le (x * s) s
    have b4 := hiB_le (y * s) s
    have L1 : (x * s < -1073741823 → loB (x * s) = -1073741823) ∧ (¬ x * s < -1073741823 → loB (x * s) = x * s) := by unfold loB; exact ⟨fun h => if_pos h, fun h => if_neg h⟩
    have L2 : (y * s < -1073741823 → loB (y * s) = -1073741823) ∧ (¬ y * s < -1073741823 → loB (y * s) = y * s) := by unfold loB; exact ⟨fun h => if_pos h, fun h => if_neg h⟩
    have U1 : (1073741823 < x * s + s - 1 → hiB (x * s) s = 1073741823) ∧ (¬ 1073741823 < x * s + s - 1 → hiB (x * s) s = x * s + s - 1) := by unfold hiB; exact ⟨fun h => if_pos h, fun h => if_neg h⟩
    have U2 : (1073741823 < y * s + s - 1 → hiB (y * s) s = 1073741823) ∧ (¬ 1073741823 < y * s + s - 1 → hiB (y * s) s = y * s + s - 1) := by unfold hiB; exact ⟨fun h => if_pos h, fun h => if_neg h⟩
    have n67 : z6 ≠ z7 := by omega
    have n76 : z7 ≠ z6 := by omega
    have nr6 : zr ≠ z6 := by omega
    have nr7 : zr ≠ z7 := by omega
    have n6r : z6 ≠ zr := by omega
    have n7r : z7 ≠ zr := by omega
    have lr : w.heap.size ≤ zr := by omega
    have l6 : w.heap.size ≤ z6 := by omega
    have l7 : w.heap.size ≤ z7 := by omega
    simp only [← hz7]
    simp only [← hz6]
    simp only [← hzr]
    clear hz6 hz7 hzr hv vx vy wp1 wp2 wp3 wq1 wq2 wq3 p1 p2 q1 q2 hx hy HF
    generalize World.alloc _ _ = wl at *
    generalize loB (x * s) = lx at *
    generalize loB (y * s) = ly at *
    generalize hiB (x * s) s = ux at *
    generalize hiB (y * s) s = uy at *
    generalize x * s + s - 1 = px at *
    generalize y * s + s - 1 = py at *
    generalize x * s + s = ix at *
    generalize y * s + s = iy at *
    generalize x * s = xs at *
    generalize y * s = ys at *
    have HS := Lib.hid (And.intro B6 (And.intro B7 (And.intro BR hF)))
    clear B6 B7 BR hF
    have HL := Lib.hid (And.intro L1 (And.intro L2 (And.intro U1 U2)))
    have HB := Lib.hid (And.intro b1 (And.intro b2 (And.intro b3 b4)))
    clear L1 L2 U1 U2 b1 b2 b3 b4
    go_loopw [8] (fun i wr => Blk wr zr #[.int .i32 0, .int .i32 0, .int .i32 0, .int .i32 0] 39 ∧ Fr [] w wr ∧
      ((i = .int .i64 0 ∧ Blk wr z6 #[.int .i64 xs, .int .i64 ys] 68 ∧ Blk wr z7 #[.int .i64 px, .int .i64 py] 68) ∨
       (i = .int .i64 1 ∧ lx ≤ ux ∧ Blk wr z6 #[.int .i64 lx, .int .i64 ys] 68 ∧ Blk wr z7 #[.int .i64 ux, .int .i64 py] 68) ∨
       (i = .int .i64 2 ∧ lx ≤ ux ∧ ly ≤ uy ∧ Blk wr z6 #[.int .i64 lx, .int .i64 ly] 68 ∧ Blk wr z7 #[.int .i64 ux, .int .i64 uy] 68))) (fun i _ => (3 - intOf i).toNat)
    case atStart => exact ⟨HS.out.2.2.1, HS.out.2.2.2, .inl ⟨rfl, HS.out.1, HS.out.2.1⟩⟩
    case round =>
      obtain ⟨kr, kf, hi⟩ := hrel
      obtain ⟨wo, rfl⟩ : ∃ wo : World, wo = wr := ⟨_, rfl⟩
      rcases hi with ⟨rfl, k6, k7⟩ | ⟨rfl, o1, k6, k7⟩ | ⟨rfl, o1, o2, k6, k7⟩
      · have hn6 := k6.free 0
        have hn7 := k7.free 0
        have c6 := k6.at 0 (v := .int .i64 xs) rfl
        have c7 := k7.at 0 (v := .int .i64 px) rfl
        by_cases hA : xs < -1073741823
        · obtain rfl : lx = -1073741823 := HL.out.1.1 hA
          have j6 : Blk (wo.setCell ⟨z6, 0, none⟩ (.int .i64 (-1073741823))) z6 #[.int .i64 (-1073741823), .int .i64 ys] 68 := k6.set 0 _
          have j7 : Blk (wo.setCell ⟨z6, 0, none⟩ (.int .i64 (-1073741823))) z7 #[.int .i64 px, .int .i64 py] 68 := k7.other ⟨z6, 0, none⟩ _ n76
          have jr := kr.other ⟨z6, 0, none⟩ (.int .i64 (-1073741823)) nr6
          have jf : Fr [] w (wo.setCell ⟨z6, 0, none⟩ (.int .i64 (-1073741823))) := kf.setCell _ _ (.inr l6)
          by_cases hB : 1073741823 < px
          · obtain rfl : ux = 1073741823 := HL.out.2.2.1.1 hB
            have f7 := j7.free 0
            have d6 := j6.at 0 (v := .int .i64 (-1073741823)) rfl
            have d7 := j7.at 0 (v := .int .i64 px) rfl
            have i6 : Blk ((wo.setCell ⟨z6, 0, none⟩ (.int .i64 (-1073741823))).setCell ⟨z7, 0, none⟩ (.int .i64 1073741823)) z6 #[.int .i64 (-1073741823), .int .i64 ys] 68 := j6.other ⟨z7, 0, none⟩ _ n67
            have i7 : Blk ((wo.setCell ⟨z6, 0, none⟩ (.int .i64 (-1073741823))).setCell ⟨z7, 0, none⟩ (.int .i64 1073741823)) z7 #[.int .i64 1073741823, .int .i64 py] 68 := j7.set 0 _
            have ir := jr.other ⟨z7, 0, none⟩ (.int .i64 1073741823) nr7
            have if_ : Fr [] w ((wo.setCell ⟨z6, 0, none⟩ (.int .i64 (-1073741823))).setCell ⟨z7, 0, none⟩ (.int .i64 1073741823)) := jf.setCell _ _ (.inr l7)
            have e6 := i6.at 0 (v := .int .i64 (-1073741823)) rfl
            have e7 := i7.at 0 (v := .int .i64 1073741823) rfl
            have II := Lib.hid (And.intro i6 (And.intro i7 (And.intro ir if_)))
            clear i6 i7 ir if_ j6 j7 jr jf k6 k7 kr kf
            · go_wp2_with fail
              go_quiet (fail)
              go_wp2
              obtain ⟨i6, i7, ir, if_⟩ := II.out
              exact ⟨⟨ir.drewN _, if_.drewN _, .inr (.inl ⟨by go_num, (by decide), i6.drewN _, i7.drewN _⟩)⟩, by simp [intOf]⟩
          · obtain rfl : px = ux := (HL.out.2.2.1.2 hB).symm
            have f7 := j7.free 0
            have d6 := j6.at 0 (v := .int .i64 (-1073741823)) rfl
            have d7 := j7.at 0 (v := .int .i64 px) rfl
            have i6 := j6
            have i7 := j7
            have ir := jr
            have if_ := jf
            have e6 := i6.at 0 (v := .int .i64 (-1073741823)) rfl
            have e7 := i7.at 0 (v := .int .i64 px) rfl
            have II := Lib.hid (And.intro i6 (And.intro i7 (And.intro ir if_)))
            clear i6 i7 ir if_ j6 j7 jr jf k6 k7 kr kf
            by_cases hC : (-1073741823) ≤ px
            · go_wp2_with fail
              go_quiet (fail)
              go_wp2
              obtain ⟨i6, i7, ir, if_⟩ := II.out
              exact ⟨⟨ir.drewN _, if_.drewN _, .inr (.inl ⟨by go_num, hC, i6.drewN _, i7.drewN _⟩)⟩, by simp [intOf]⟩
            · have hv : sqV x y s = .tuple #[bx 0 0 0 0, .bool false] := by rw [HV.out, if_neg (by simp; omega)]
              have HV2 := Lib.hid hv
              clear hv
              go_wp2_with fail
              go_quiet (fail)
              have ir := II.out.2.2.1.drewN nq
              have r0 := ir.free 0
              have y0 := ir.at 0 (v := .int .i32 0) rfl
              have r1 := ir.free 1
              have y1 := ir.at 1 (v := .int .i32 0) rfl
              have r2 := ir.free 2
              have y2 := ir.at 2 (v := .int .i32 0) rfl
              have r3 := ir.free 3
              have y3 := ir.at 3 (v := .int .i32 0) rfl
              clear ir
              go_wp2
              have ir := II.out.2.2.1.drewN nq
              have if_ := II.out.2.2.2.drewN nq
              have cb := (((ir.set 0 (.int .i32 0)).set 1 (.int .i32 0)).set 2 (.int .i32 0)).set 3 (.int .i32 0)
              have c0 := cb.at 0 (v := .int .i32 0) rfl
              have c1 := cb.at 1 (v := .int .i32 0) rfl
              have c2 := cb.at 2 (v := .int .i32 0) rfl
              have c3 := cb.at 3 (v := .int .i32 0) rfl
              refine bodyPost_ret (v := .tuple #[.agg #[.int .i32 0, .int .i32 0, .int .i32 0, .int .i32 0], .bool false]) (by simp [results, Try.results19, go_sem, c0, c1, c2, c3]) rfl ⟨by rw [HV2.out], (((if_.setCell _ _ (.inr lr)).setCell _ _ (.inr lr)).setCell _ _ (.inr lr)).setCell _ _ (.inr lr)⟩
        · obtain rfl : xs = lx := (HL.out.1.2 hA).symm
          have j6 := k6
          have j7 := k7
          have jr := kr
          have jf := kf
          by_cases hB : 1073741823 < px
          · obtain rfl : ux = 1073741823 := HL.out.2.2.1.1 hB
            have f7 := j7.free 0
            have d6 := j6.at 0 (v := .int .i64 xs) rfl
            have d7 := j7.at 0 (v := .int .i64 px) rfl
            have i6 : Blk (wo.setCell ⟨z7, 0, none⟩ (.int .i64 1073741823)) z6 #[.int .i64 xs, .int .i64 ys] 68 := j6.other ⟨z7, 0, none⟩ _ n67
            have i7 : Blk (wo.setCell ⟨z7, 0, none⟩ (.int .i64 1073741823)) z7 #[.int .i64 1073741823, .int .i64 py] 68 := j7.set 0 _
            have ir := jr.other ⟨z7, 0, none⟩ (.int .i64 1073741823) nr7
            have if_ : Fr [] w (wo.setCell ⟨z7, 0, none⟩ (.int .i64 1073741823)) := jf.setCell _ _ (.inr l7)
            have e6 := i6.at 0 (v := .int .i64 xs) rfl
            have e7 := i7.at 0 (v := .int .i64 1073741823) rfl
            have II := Lib.hid (And.intro i6 (And.intro i7 (And.intro ir if_)))
            clear i6 i7 ir if_ j6 j7 jr jf k6 k7 kr kf
            by_cases hC : xs ≤ 1073741823
            · go_wp2_with fail
              go_quiet (fail)
              go_wp2
              obtain ⟨i6, i7, ir, if_⟩ := II.out
              exact ⟨⟨ir.drewN _, if_.drewN _, .inr (.inl ⟨by go_num, hC, i6.drewN _, i7.drewN _⟩)⟩, by simp [intOf]⟩
            · have hv : sqV x y s = .tuple #[bx 0 0 0 0, .bool false] := by rw [HV.out, if_neg (by simp; omega)]
              have HV2 := Lib.hid hv
              clear hv
              go_wp2_with fail
              go_quiet (fail)
              have ir := II.out.2.2.1.drewN nq
              have r0 := ir.free 0
              have y0 := ir.at 0 (v := .int .i32 0) rfl
              have r1 := ir.free 1
              have y1 := ir.at 1 (v := .int .i32 0) rfl
              have r2 := ir.free 2
              have y2 := ir.at 2 (v := .int .i32 0) rfl
              have r3 := ir.free 3
              have y3 := ir.at 3 (v := .int .i32 0) rfl
              clear ir
              go_wp2
              have ir := II.out.2.2.1.drewN nq
              have if_ := II.out.2.2.2.drewN nq
              have cb := (((ir.set 0 (.int .i32 0)).set 1 (.int .i32 0)).set 2 (.int .i32 0)).set 3 (.int .i32 0)
              have c0 := cb.at 0 (v := .int .i32 0) rfl
              have c1 := cb.at 1 (v := .int .i32 0) rfl
              have c2 := cb.at 2 (v := .int .i32 0) rfl
              have c3 := cb.at 3 (v := .int .i32 0) rfl
              refine bodyPost_ret (v := .tuple #[.agg #[.int .i32 0, .int .i32 0, .int .i32 0, .int .i32 0], .bool false]) (by simp [results, Try.results19, go_sem, c0, c1, c2, c3]) rfl ⟨by rw [HV2.out], (((if_.setCell _ _ (.inr lr)).setCell _ _ (.inr lr)).setCell _ _ (.inr lr)).setCell _ _ (.inr lr)⟩
          · obtain rfl : px = ux := (HL.out.2.2.1.2 hB).symm
            have f7 := j7.free 0
            have d6 := j6.at 0 (v := .int .i64 xs) rfl
            have d7 := j7.at 0 (v := .int .i64 px) rfl
            have i6 := j6
            have i7 := j7
            have ir := jr
            have if_ := jf
            have e6 := i6.at 0 (v := .int .i64 xs) rfl
            have e7 := i7.at 0 (v := .int .i64 px) rfl
            have II := Lib.hid (And.intro i6 (And.intro i7 (And.intro ir if_)))
            clear i6 i7 ir if_ j6 j7 jr jf k6 k7 kr kf
            by_cases hC : xs ≤ px
            · go_wp2_with fail
              go_quiet (fail)
              go_wp2
              obtain ⟨i6, i7, ir, if_⟩ := II.out
              exact ⟨⟨ir.drewN _, if_.drewN _, .inr (.inl ⟨by go_num, hC, i6.drewN _, i7.drewN _⟩)⟩, by simp [intOf]⟩
            · have hv : sqV x y s = .tuple #[bx 0 0 0 0, .bool false] := by rw [HV.out, if_neg (by simp; omega)]
              have HV2 := Lib.hid hv
              clear hv
              go_wp2_with fail
              go_quiet (fail)
              have ir := II.out.2.2.1.drewN nq
              have r0 := ir.free 0
              have y0 := ir.at 0 (v := .int .i32 0) rfl
              have r1 := ir.free 1
              have y1 := ir.at 1 (v := .int .i32 0) rfl
              have r2 := ir.free 2
              have y2 := ir.at 2 (v := .int .i32 0) rfl
              have r3 := ir.free 3
              have y3 := ir.at 3 (v := .int .i32 0) rfl
              clear ir
              go_wp2
              have ir := II.out.2.2.1.drewN nq
              have if_ := II.out.2.2.2.drewN nq
              have cb := (((ir.set 0 (.int .i32 0)).set 1 (.int .i32 0)).set 2 (.int .i32 0)).set 3 (.int .i32 0)
              have c0 := cb.at 0 (v := .int .i32 0) rfl
              have c1 := cb.at 1 (v := .int .i32 0) rfl
              have c2 := cb.at 2 (v := .int .i32 0) rfl
              have c3 := cb.at 3 (v := .int .i32 0) rfl
              refine bodyPost_ret (v := .tuple #[.agg #[.int .i32 0, .int .i32 0, .int .i32 0, .int .i32 0], .bool false]) (by simp [results, Try.results19, go_sem, c0, c1, c2, c3]) rfl ⟨by rw [HV2.out], (((if_.setCell _ _ (.inr lr)).setCell _ _ (.inr lr)).setCell _ _ (.inr lr)).setCell _ _ (.inr lr)⟩
      · have hn6 := k6.free 1
        have hn7 := k7.free 1
        have c6 := k6.at 1 (v := .int .i64 ys) rfl
        have c7 := k7.at 1 (v := .int .i64 py) rfl
        by_cases hA : ys < -1073741823
        · obtain rfl : ly = -1073741823 := HL.out.2.1.1 hA
          have j6 : Blk (wo.setCell ⟨z6, 1, none⟩ (.int .i64 (-1073741823))) z6 #[.int .i64 lx, .int .i64 (-1073741823)] 68 := k6.set 1 _
          have j7 : Blk (wo.setCell ⟨z6, 1, none⟩ (.int .i64 (-1073741823))) z7 #[.int .i64 ux, .int .i64 py] 68 := k7.other ⟨z6, 1, none⟩ _ n76
          have jr := kr.other ⟨z6, 1, none⟩ (.int .i64 (-1073741823)) nr6
          have jf : Fr [] w (wo.setCell ⟨z6, 1, none⟩ (.int .i64 (-1073741823))) := kf.setCell _ _ (.inr l6)
          by_cases hB : 1073741823 < py
          · obtain rfl : uy = 1073741823 := HL.out.2.2.2.1 hB
            have f7 := j7.free 1
            have d6 := j6.at 1 (v := .int .i64 (-1073741823)) rfl
            have d7 := j7.at 1 (v := .int .i64 py) rfl
            have i6 : Blk ((wo.setCell ⟨z6, 1, none⟩ (.int .i64 (-1073741823))).setCell ⟨z7, 1, none⟩ (.int .i64 1073741823)) z6 #[.int .i64 lx, .int .i64 (-1073741823)] 68 := j6.other ⟨z7, 1, none⟩ _ n67
            have i7 : Blk ((wo.setCell ⟨z6, 1, none⟩ (.int .i64 (-1073741823))).setCell ⟨z7, 1, none⟩ (.int .i64 1073741823)) z7 #[.int .i64 ux, .int .i64 1073741823] 68 := j7.set 1 _
            have ir := jr.other ⟨z7, 1, none⟩ (.int .i64 1073741823) nr7
            have if_ : Fr [] w ((wo.setCell ⟨z6, 1, none⟩ (.int .i64 (-1073741823))).setCell ⟨z7, 1, none⟩ (.int .i64 1073741823)) := jf.setCell _ _ (.inr l7)
            have e6 := i6.at 1 (v := .int .i64 (-1073741823)) rfl
            have e7 := i7.at 1 (v := .int .i64 1073741823) rfl
            have II := Lib.hid (And.intro i6 (And.intro i7 (And.intro ir if_)))
            clear i6 i7 ir if_ j6 j7 jr jf k6 k7 kr kf
            · go_wp2_with fail
              go_quiet (fail)
              go_wp2
              obtain ⟨i6, i7, ir, if_⟩ := II.out
              exact ⟨⟨ir.drewN _, if_.drewN _, .inr (.inr ⟨by go_num, o1, (by decide), i6.drewN _, i7.drewN _⟩)⟩, by simp [intOf]⟩
          · obtain rfl : py = uy := (HL.out.2.2.2.2 hB).symm
            have f7 := j7.free 1
            have d6 := j6.at 1 (v := .int .i64 (-1073741823)) rfl
            have d7 := j7.at 1 (v := .int .i64 py) rfl
            have i6 := j6
            have i7 := j7
            have ir := jr
            have if_ := jf
            have e6 := i6.at 1 (v := .int .i64 (-1073741823)) rfl
            have e7 := i7.at 1 (v := .int .i64 py) rfl
            have II := Lib.hid (And.intro i6 (And.intro i7 (And.intro ir if_)))
            clear i6 i7 ir if_ j6 j7 jr jf k6 k7 kr kf
            by_cases hC : (-1073741823) ≤ py
            · go_wp2_with fail
              go_quiet (fail)
              go_wp2
              obtain ⟨i6, i7, ir, if_⟩ := II.out
              exact ⟨⟨ir.drewN _, if_.drewN _, .inr (.inr ⟨by go_num, o1, hC, i6.drewN _, i7.drewN _⟩)⟩, by simp [intOf]⟩
            · have hv : sqV x y s = .tuple #[bx 0 0 0 0, .bool false] := by rw [HV.out, if_neg (by simp; omega)]
              have HV2 := Lib.hid hv
              clear hv
              go_wp2_with fail
              go_quiet (fail)
              have ir := II.out.2.2.1.drewN nq
              have r0 := ir.free 0
              have y0 := ir.at 0 (v := .int .i32 0) rfl
              have r1 := ir.free 1
              have y1 := ir.at 1 (v := .int .i32 0) rfl
              have r2 := ir.free 2
              have y2 := ir.at 2 (v := .int .i32 0) rfl
              have r3 := ir.free 3
              have y3 := ir.at 3 (v := .int .i32 0) rfl
              clear ir
              go_wp2
              have ir := II.out.2.2.1.drewN nq
              have if_ := II.out.2.2.2.drewN nq
              have cb := (((ir.set 0 (.int .i32 0)).set 1 (.int .i32 0)).set 2 (.int .i32 0)).set 3 (.int .i32 0)
              have c0 := cb.at 0 (v := .int .i32 0) rfl
              have c1 := cb.at 1 (v := .int .i32 0) rfl
              have c2 := cb.at 2 (v := .int .i32 0) rfl
              have c3 := cb.at 3 (v := .int .i32 0) rfl
              refine bodyPost_ret (v := .tuple #[.agg #[.int .i32 0, .int .i32 0, .int .i32 0, .int .i32 0], .bool false]) (by simp [results, Try.results19, go_sem, c0, c1, c2, c3]) rfl ⟨by rw [HV2.out], (((if_.setCell _ _ (.inr lr)).setCell _ _ (.inr lr)).setCell _ _ (.inr lr)).setCell _ _ (.inr lr)⟩
        · obtain rfl : ys = ly := (HL.out.2.1.2 hA).symm
          have j6 := k6
          have j7 := k7
          have jr := kr
          have jf := kf
          by_cases hB : 1073741823 < py
          · obtain rfl : uy = 1073741823 := HL.out.2.2.2.1 hB
            have f7 := j7.free 1
            have d6 := j6.at 1 (v := .int .i64 ys) rfl
            have d7 := j7.at 1 (v := .int .i64 py) rfl
            have i6 : Blk (wo.setCell ⟨z7, 1, none⟩ (.int .i64 1073741823)) z6 #[.int .i64 lx, .int .i64 ys] 68 := j6.other ⟨z7, 1, none⟩ _ n67
            have i7 : Blk (wo.setCell ⟨z7, 1, none⟩ (.int .i64 1073741823)) z7 #[.int .i64 ux, .int .i64 1073741823] 68 := j7.set 1 _
            have ir := jr.other ⟨z7, 1, none⟩ (.int .i64 1073741823) nr7
            have if_ : Fr [] w (wo.setCell ⟨z7, 1, none⟩ (.int .i64 1073741823)) := jf.setCell _ _ (.inr l7)
            have e6 := i6.at 1 (v := .int .i64 ys) rfl
            have e7 := i7.at 1 (v := .int .i64 1073741823) rfl
            have II := Lib.hid (And.intro i6 (And.intro i7 (And.intro ir if_)))
            clear i6 i7 ir if_ j6 j7 jr jf k6 k7 kr kf
            by_cases hC : ys ≤ 1073741823
            · go_wp2_with fail
              go_quiet (fail)
              go_wp2
              obtain ⟨i6, i7, ir, if_⟩ := II.out
              exact ⟨⟨ir.drewN _, if_.drewN _, .inr (.inr ⟨by go_num, o1, hC, i6.drewN _, i7.drewN _⟩)⟩, by simp [intOf]⟩
            · have hv : sqV x y s = .tuple #[bx 0 0 0 0, .bool false] := by rw [HV.out, if_neg (by simp; omega)]
              have HV2 := Lib.hid hv
              clear hv
              go_wp2_with fail
              go_quiet (fail)
              have ir := II.out.2.2.1.drewN nq
              have r0 := ir.free 0
              have y0 := ir.at 0 (v := .int .i32 0) rfl
              have r1 := ir.free 1
              have y1 := ir.at 1 (v := .int .i32 0) rfl
              have r2 := ir.free 2
              have y2 := ir.at 2 (v := .int .i32 0) rfl
              have r3 := ir.free 3
              have y3 := ir.at 3 (v := .int .i32 0) rfl
              clear ir
              go_wp2
              have ir := II.out.2.2.1.drewN nq
              have if_ := II.out.2.2.2.drewN nq
              have cb := (((ir.set 0 (.int .i32 0)).set 1 (.int .i32 0)).set 2 (.int .i32 0)).set 3 (.int .i32 0)
              have c0 := cb.at 0 (v := .int .i32 0) rfl
              have c1 := cb.at 1 (v := .int .i32 0) rfl
              have c2 := cb.at 2 (v := .int .i32 0) rfl
              have c3 := cb.at 3 (v := .int .i32 0) rfl
              refine bodyPost_ret (v := .tuple #[.agg #[.int .i32 0, .int .i32 0, .int .i32 0, .int .i32 0], .bool false]) (by simp [results, Try.results19, go_sem, c0, c1, c2, c3]) rfl ⟨by rw [HV2.out], (((if_.setCell _ _ (.inr lr)).setCell _ _ (.inr lr)).setCell _ _ (.inr lr)).setCell _ _ (.inr lr)⟩
          · obtain rfl : py = uy := (HL.out.2.2.2.2 hB).symm
            have f7 := j7.free 1
            have d6 := j6.at 1 (v := .int .i64 ys) rfl
            have d7 := j7.at 1 (v := .int .i64 py) rfl
            have i6 := j6
            have i7 := j7
            have ir := jr
            have if_ := jf
            have e6 := i6.at 1 (v := .int .i64 ys) rfl
            have e7 := i7.at 1 (v := .int .i64 py) rfl
            have II := Lib.hid (And.intro i6 (And.intro i7 (And.intro ir if_)))
            clear i6 i7 ir if_ j6 j7 jr jf k6 k7 kr kf
            by_cases hC : ys ≤ py
            · go_wp2_with fail
              go_quiet (fail)
              go_wp2
              obtain ⟨i6, i7, ir, if_⟩ := II.out
              exact ⟨⟨ir.drewN _, if_.drewN _, .inr (.inr ⟨by go_num, o1, hC, i6.drewN _, i7.drewN _⟩)⟩, by simp [intOf]⟩
            · have hv : sqV x y s = .tuple #[bx 0 0 0 0, .bool false] := by rw [HV.out, if_neg (by simp; omega)]
              have HV2 := Lib.hid hv
              clear hv
              go_wp2_with fail
              go_quiet (fail)
              have ir := II.out.2.2.1.drewN nq
              have r0 := ir.free 0
              have y0 := ir.at 0 (v := .int .i32 0) rfl
              have r1 := ir.free 1
              have y1 := ir.at 1 (v := .int .i32 0) rfl
              have r2 := ir.free 2
              have y2 := ir.at 2 (v := .int .i32 0) rfl
              have r3 := ir.free 3
              have y3 := ir.at 3 (v := .int .i32 0) rfl
              clear ir
              go_wp2
              have ir := II.out.2.2.1.drewN nq
              have if_ := II.out.2.2.2.drewN nq
              have cb := (((ir.set 0 (.int .i32 0)).set 1 (.int .i32 0)).set 2 (.int .i32 0)).set 3 (.int .i32 0)
              have c0 := cb.at 0 (v := .int .i32 0) rfl
              have c1 := cb.at 1 (v := .int .i32 0) rfl
              have c2 := cb.at 2 (v := .int .i32 0) rfl
              have c3 := cb.at 3 (v := .int .i32 0) rfl
              refine bodyPost_ret (v := .tuple #[.agg #[.int .i32 0, .int .i32 0, .int .i32 0, .int .i32 0], .bool false]) (by simp [results, Try.results19, go_sem, c0, c1, c2, c3]) rfl ⟨by rw [HV2.out], (((if_.setCell _ _ (.inr lr)).setCell _ _ (.inr lr)).setCell _ _ (.inr lr)).setCell _ _ (.inr lr)⟩
      · obtain ⟨b1, b2, b3, b4⟩ := HB.out
        have v1 : IntKind.i32.wrap lx = lx := by rw [IntKind.wrap_i32]; omega
        have v2 : IntKind.i32.wrap ly = ly := by rw [IntKind.wrap_i32]; omega
        have v3 : IntKind.i32.wrap ux = ux := by rw [IntKind.wrap_i32]; omega
        have v4 : IntKind.i32.wrap uy = uy := by rw [IntKind.wrap_i32]; omega
        have hv : sqV x y s = .tuple #[bx lx ly ux uy, .bool true] := by rw [HV.out, if_pos (by simp [o1, o2])]
        have c0 := k6.at 0 (v := .int .i64 lx) rfl
        have c1 := k6.at 1 (v := .int .i64 ly) rfl
        have c2 := k7.at 0 (v := .int .i64 ux) rfl
        have c3 := k7.at 1 (v := .int .i64 uy) rfl
        have r0 := kr.free 0
        have r1 := kr.free 1
        have r2 := kr.free 2
        have r3 := kr.free 3
        have y0 := kr.at 0 (v := .int .i32 0) rfl
        have y1 := kr.at 1 (v := .int .i32 0) rfl
        have y2 := kr.at 2 (v := .int .i32 0) rfl
        have y3 := kr.at 3 (v := .int .i32 0) rfl
        have HV2 := Lib.hid hv
        have HK := Lib.hid (And.intro kr kf)
        clear hv b1 b2 b3 b4 kr kf k6 k7 o1 o2
        go_wp2
        have cb := (((HK.out.1.set 0 (.int .i32 lx)).set 1 (.int .i32 ly)).set 2 (.int .i32 ux)).set 3 (.int .i32 uy)
        have c0 := cb.at 0 (v := .int .i32 lx) rfl
        have c1 := cb.at 1 (v := .int .i32 ly) rfl
        have c2 := cb.at 2 (v := .int .i32 ux) rfl
        have c3 := cb.at 3 (v := .int .i32 uy) rfl
        refine bodyPost_ret (v := .tuple #[.agg #[.int .i32 lx, .int .i32 ly, .int .i32 ux, .int .i32 uy], .bool true]) (by simp [results, Try.results19, go_sem, c0, c1, c2, c3]) rfl ⟨by rw [HV2.out], (((HK.out.2.setCell _ _ (.inr lr)).setCell _ _ (.inr lr)).setCell _ _ (.inr lr)).setCell _ _ (.inr lr)⟩
end Go.Proofs.Ythagbhiblncpkaa
