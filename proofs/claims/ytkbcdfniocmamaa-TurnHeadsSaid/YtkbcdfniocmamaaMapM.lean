/-
  The statements' last look: a point turned by a quarter, and back.
-/
import Derived.Test.YtkbcdfniocmamaaMapL
import Derived.Deep.CutBlock
import Derived.Deep.DeepCutAuto
namespace Go.Proofs.Ytkbcdfniocmamaa
open Go.RowKit Flo
set_option linter.unusedVariables false

theorem Blk.pair {W : World} {b : Nat} {x y : Value} {e : TypeId} (h : Blk W b #[x, y] e) (u v : Value) : Blk ((W.setCell ⟨b, 0, none⟩ u).setCell ⟨b, 1, none⟩ v) b #[u, v] e := (h.set 0 u).set 1 v
set_option maxHeartbeats 4000000 in
theorem lives_any (w : World) : Calls Try.prog 26 #[] w fun e w' => e = .returned (.bool true) ∧ Fr [] w w' := by
  have hB0 := (Blk.new_at (w := w) (k := w.heap.size + 0) (by simp) #[.complex .f64 0 4607182418800017408, .complex .f64 4607182418800017408 0] 28)
  have f0 := ((Fr.refl [] w).alloc (.cells #[.complex .f64 0 4607182418800017408, .complex .f64 4607182418800017408 0] 28))
  obtain ⟨z0, hz0⟩ : ∃ z, z = w.heap.size := ⟨_, rfl⟩
  rw [show w.heap.size + 0 = z0 by omega] at hB0
  have HZ := Lib.hid (show w.heap.size ≤ z0 from by omega)
  have HF := Lib.hid f0
  have HB0 := Lib.hid hB0
  clear f0 hB0
  go_enter Try.func26, Try.ntmps26
  go_upto_region 2 with fail
  simp only [← hz0]
  clear hz0
  generalize (World.alloc w _) = w0v at *
  obtain ⟨w0, hw0⟩ : ∃ w0, w0 = w0v := ⟨_, rfl⟩
  rw [← hw0] at HB0
  rw [← hw0] at HF
  rw [← hw0]
  clear hw0
  have SS := Lib.hid (fun (W : World) (f : Fr [] w0 W) => show W.cell? ⟨z0, 0, none⟩ = some (.complex .f64 0 4607182418800017408) ∧ W.cell? ⟨z0, 1, none⟩ = some (.complex .f64 4607182418800017408 0) from ⟨(f.blk HB0.out (by simp)).at 0 rfl, (f.blk HB0.out (by simp)).at 1 rfl⟩)
  obtain ⟨c0, c1⟩ := SS.out _ (Fr.refl _ w0)
  go_cut [2, 3] (fun s2 s3 wx => ∃ z2, s2 = .pointer (some ⟨z2, 0, none⟩) ∧ s3 = .int .i64 0 ∧ Blk wx z2 #[.int .i32 (-2), .int .i32 2] 64 ∧ Fr [] w0 wx)
  case first =>
    go_region_held3 (fun w' => w'.cell? ⟨z0, 0, none⟩ = some (.complex .f64 0 4607182418800017408) ∧ w'.cell? ⟨z0, 1, none⟩ = some (.complex .f64 4607182418800017408 0)) (first | (refine SS.out _ ?_; repeat (first | exact F2 | exact F1 | exact Fr.refl _ _ | refine Fr.drew ?_ | refine Fr.drewN ?_ _ | refine Fr.alloc ?_ _ | refine Fr.setCell ?_ _ _ (.inr (by first | exact F1.size | exact F2.size | (have := F1.size; simp; omega) | (have := F2.size; simp; omega) | simp)))))
      (first
        | (go_at_call 58; refine (lawAt_any _ _ _).mono ?_; rintro e w1 ⟨rfl, f1⟩; have F1 : Fr [] w0 w1 := (by (refine Fr.trans ?_ f1 (by simp); repeat (first | exact Fr.refl _ _ | refine Fr.drew ?_ | refine Fr.drewN ?_ _ | refine Fr.alloc ?_ _))); (try (have qa : Blk w1 (w0.heap.size) #[.int .i32 0, .int .i32 0] 64 := (Fr.blk f1 (by first | exact Blk.new w0 _ _ | exact (Blk.new w0 _ _).drew) (by simp)); have qa0 := qa.at 0 (v := .int .i32 0) rfl; have qa1 := qa.at 1 (v := .int .i32 0) rfl; have qa2 := qa.free 0; have qa3 := qa.free 1)); clear f1)
        | (go_at_call 30; refine (turn_there _).mono ?_; rintro e w2 ⟨rfl, f2⟩; have F2 : Fr [] w0 w2 := (by (refine Fr.trans ?_ f2 (by simp); repeat (first | exact Fr.refl _ _ | exact F1 | refine Fr.drew ?_ | refine Fr.drewN ?_ _ | refine Fr.alloc ?_ _))); (try (have ra : Blk w2 (w0.heap.size) #[.int .i32 0, .int .i32 0] 64 := (Fr.blk f2 (by first | exact qa | exact qa.drew) (by simp)); have ra0 := ra.at 0 (v := .int .i32 0) rfl; have ra1 := ra.at 1 (v := .int .i32 0) rfl; have ra2 := ra.free 0; have ra3 := ra.free 1)); (try (have rc : Blk w2 (w1.heap.size) #[.int .i32 0, .int .i32 0] 64 := (Fr.blk f2 (by first | exact Blk.new w1 _ _ | exact (Blk.new w1 _ _).drew) (by simp)); have rc0 := rc.at 0 (v := .int .i32 0) rfl; have rc1 := rc.at 1 (v := .int .i32 0) rfl; have rc2 := rc.free 0; have rc3 := rc.free 1)); clear f2))
    all_goals
      simp only [Exit.then]
      go_wp2_with fail
      go_meet
      case rel =>
        refine ⟨_, rfl, rfl, ?_, ?_⟩
        · first | exact Blk.pair ra _ _ | exact Blk.pair ra.drew _ _ | exact Blk.pair rc _ _ | exact Blk.pair rc.drew _ _ | exact Blk.new _ _ _ | exact (Blk.new _ _ _).drew
        · repeat (first | exact F2 | refine Fr.drew ?_ | refine Fr.alloc ?_ _ | refine Fr.setCell ?_ _ _ (.inr (by first | exact F1.size | exact F2.size | (have := F1.size; simp; omega) | (have := F2.size; simp; omega) | simp)))
  case rest =>
    obtain ⟨z2, rfl, rfl, hb2, g0⟩ := hcut
    obtain ⟨c0, c1⟩ := SS.out _ g0
    have HB2 := Lib.hid hb2
    have HG := Lib.hid (HF.out.trans g0 (by simp))
    clear hb2 g0 SS HB0 HF
    go_wp2_with fail
    (with_reducible refine (turn_back _).mono ?_)
    rintro e w3 ⟨rfl, f3⟩
    have HB3 := Lib.hid ((f3.blk HB2.out (by simp)).alloc (.cells #[.complex .f64 0 13830554455654793216, .complex .f64 0 4607182418800017408] 28))
    have HN3 := Lib.hid (Blk.new w3 #[.complex .f64 0 13830554455654793216, .complex .f64 0 4607182418800017408] 28)
    have HG3 := Lib.hid ((HG.out.trans f3 (by simp)).alloc (.cells #[.complex .f64 0 13830554455654793216, .complex .f64 0 4607182418800017408] 28))
    have d0 := HB3.out.at 0 (v := .int .i32 (-2)) rfl
    have d1 := HB3.out.at 1 (v := .int .i32 2) rfl
    clear f3
    go_wp2_with fail
    (with_reducible refine (turn_here _).mono ?_)
    rintro e w4 ⟨rfl, f4⟩
    have HB4 := Lib.hid ((f4.blk HB3.out (by simp)).alloc (.cells #[.int .i32 2, .int .i32 3] 64))
    have HN4 := Lib.hid (Blk.new w4 #[.int .i32 2, .int .i32 3] 64)
    have HG4 := Lib.hid ((HG3.out.trans f4 (by simp)).alloc (.cells #[.int .i32 2, .int .i32 3] 64))
    clear f4
    go_upto_region 5 with fail
    generalize World.alloc w4 _ = w5v at *
    obtain ⟨w5, hw5⟩ : ∃ w5, w5 = w5v := ⟨_, rfl⟩
    rw [← hw5] at HB4 HN4 HG4
    rw [← hw5]
    clear hw5
    obtain ⟨z4, hz4⟩ : ∃ z, z = w4.heap.size := ⟨_, rfl⟩
    rw [← hz4] at HN4
    simp only [← hz4]
    clear hz4
    have SS := Lib.hid (fun (W : World) (f : Fr [] w5 W) => show W.cell? ⟨z2, 0, none⟩ = some (.int .i32 (-2)) ∧ W.cell? ⟨z2, 1, none⟩ = some (.int .i32 2) ∧ W.cell? ⟨z4, 0, none⟩ = some (.int .i32 2) ∧ W.cell? ⟨z4, 1, none⟩ = some (.int .i32 3) from ⟨(f.blk HB4.out (by simp)).at 0 rfl, (f.blk HB4.out (by simp)).at 1 rfl, (f.blk HN4.out (by simp)).at 0 rfl, (f.blk HN4.out (by simp)).at 1 rfl⟩)
    obtain ⟨c0, c1, c2, c3⟩ := SS.out _ (Fr.refl _ w5)
    go_region_held3 (fun w' => w'.cell? ⟨z2, 0, none⟩ = some (.int .i32 (-2)) ∧ w'.cell? ⟨z2, 1, none⟩ = some (.int .i32 2) ∧ w'.cell? ⟨z4, 0, none⟩ = some (.int .i32 2) ∧ w'.cell? ⟨z4, 1, none⟩ = some (.int .i32 3)) (first | (refine SS.out _ ?_; repeat (first | exact F7 | exact F6 | exact Fr.refl _ _ | refine Fr.drew ?_ | refine Fr.drewN ?_ _)))
      (first
        | (go_at_call_of 58 (Value.int IntKind.i32 3); refine (lawAt_any _ _ _).mono ?_; rintro e w7 ⟨rfl, f7⟩; have F7 : Fr [] w5 w7 := (by (refine Fr.trans ?_ f7 (by simp); repeat (first | exact Fr.refl _ _ | exact F6 | refine Fr.drew ?_ | refine Fr.drewN ?_ _))); clear f7)
        | (go_at_call 58; refine (lawAt_any _ _ _).mono ?_; rintro e w6 ⟨rfl, f6⟩; have F6 : Fr [] w5 w6 := (by (refine Fr.trans ?_ f6 (by simp); repeat (first | exact Fr.refl _ _ | refine Fr.drew ?_ | refine Fr.drewN ?_ _))); clear f6)
        | (go_at_call 24; refine (turn_sector _).mono ?_; rintro e w8 ⟨rfl, rfl⟩))
    all_goals
      simp only [Exit.then]
      go_wp2_with fail
      go_ret
      exact ⟨rfl, HG4.out.trans (by repeat (first | exact F7 | refine Fr.drew ?_ | refine Fr.drewN ?_ _)) (by simp)⟩
end Go.Proofs.Ytkbcdfniocmamaa
