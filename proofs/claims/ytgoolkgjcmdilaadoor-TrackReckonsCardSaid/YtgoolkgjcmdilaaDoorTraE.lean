/-
  Speed: size, distance.
-/
import Derived.Test.YtgoolkgjcmdilaaDoorTraA
namespace Go.Proofs.YtgoolkgjcmdilaaDoor
open Go.RowKit
set_option linter.unusedVariables false
set_option linter.unusedSimpArgs false
attribute [local go_sem] Oper.semAt_some

def I32 (a : Int) : Prop := -2147483648 ≤ a ∧ a ≤ 2147483647
def dAbs (a b : Int) : Nat := (a - b).natAbs
theorem size_any (w : World) (a b : Int) (ha : I32 a) (hb : I32 b) : Calls Tryd.prog 102 #[.int .i32 a, .int .i32 b] w fun e w' => e = .returned (.int .u64 (dAbs a b)) ∧ w = w' := by
  obtain ⟨a1, a2⟩ := ha
  obtain ⟨b1, b2⟩ := hb
  go_enter Tryd.func102, Tryd.ntmps102
  go_wp2
  all_goals
    go_ret
    exact ⟨congrArg (fun z => Ending.returned (.int .u64 z)) (by unfold dAbs; omega), rfl⟩
theorem add64_9 (w : World) : (callFunc 139 #[.int .u64 9, .int .u64 16, .int .u64 0]).run Tryd.prog w = .ok (.value (.tuple #[.int .u64 25, .int .u64 0])) w := by kernel_rfl
attribute [local go_sem] add64_9
theorem fl25 : floatOfInt .f64 25 = 4627730092099895296 := by kernel_rfl
theorem sqrt25 (w : World) : (callFunc 140 #[.float .f64 4627730092099895296]).run Tryd.prog w = .ok (.value (.float .f64 4617315517961601024)) w := by kernel_rfl
attribute [local go_sem] sqrt25
theorem sq25 (w : World) : Calls Tryd.prog 100 #[.float .f64 4627730092099895296] w fun e w' => e = .returned (.float .f64 4617315517961601024) ∧ w = w' := by
  go_enter Tryd.func100, Tryd.ntmps100
  go_wp2
  go_ret
  exact ⟨rfl, rfl⟩
set_option maxRecDepth 100000 in
theorem dist34 (w : World) : Calls Tryd.prog 98 #[.agg #[.int .i32 0, .int .i32 0], .agg #[.int .i32 3, .int .i32 4]] w fun e w' => e = .returned (.float .f64 4617315517961601024) ∧ Fr [] w w' := by
  have HI := Lib.hid (show I32 0 ∧ I32 0 ∧ I32 3 ∧ I32 4 by refine ⟨?_, ?_, ?_, ?_⟩ <;> constructor <;> decide)
  have F0 : Fr [] w ((w.alloc (.cells #[.int .i32 0, .int .i32 0] 98)).alloc (.cells #[.int .i32 3, .int .i32 4] 98)) := ((Fr.refl _ _).alloc _).alloc _
  have hA := (Blk.new w #[.int .i32 0, .int .i32 0] 98).alloc (.cells #[.int .i32 3, .int .i32 4] 98)
  have hB := Blk.new (w.alloc (.cells #[.int .i32 0, .int .i32 0] 98)) #[.int .i32 3, .int .i32 4] 98
  rw [show (w.alloc (.cells #[.int .i32 0, .int .i32 0] 98)).heap.size = w.heap.size + 1 by simp] at hB
  go_enter Tryd.func98, Tryd.ntmps98
  go_wp2_with fail
  obtain ⟨w1, hw1⟩ : ∃ w1, (w.alloc (.cells #[.int .i32 0, .int .i32 0] 98)).alloc (.cells #[.int .i32 3, .int .i32 4] 98) = w1 := ⟨_, rfl⟩
  rw [hw1] at F0 hA hB ⊢
  have HF := Lib.hid F0
  clear F0 hw1
  generalize w.heap.size + 1 = c1 at hB ⊢
  obtain ⟨a0, ha0⟩ : ∃ a0, a0 = w.heap.size := ⟨_, rfl⟩
  rw [← ha0] at hA ⊢
  have HA := Lib.hid (And.intro hA hB)
  clear hA hB ha0
  refine region_grow (by kernel_rfl) (by kernel_rfl) [.is (.pointer (some ⟨a0, 0, none⟩)), .is (.int .i32 0), .is (.pointer (some ⟨c1, 0, none⟩)), .is (.int .i32 3), .is (.int .u64 (dAbs 0 3)), .is (.pointer (some ⟨a0, 1, none⟩)), .is (.int .i32 0), .is (.pointer (some ⟨c1, 1, none⟩)), .is (.int .i32 4), .is (.int .u64 (dAbs 0 4)), .is (.int .u64 (dAbs 0 3)), .is (.int .u64 (dAbs 0 4))] 44 rfl (by kernel_rfl) [(0, 10), (1, 11), (2, 12), (3, 13), (4, 14), (5, 15), (6, 16), (7, 17), (8, 18), (9, 19), (10, 5), (11, 6)] (by kernel_rfl) ?_ ?_
  · intro q a1 W1 i hi hnq hd hG K hK
    have hlt : i < 12 := hi
    have hc : i = 0 ∨ i = 1 ∨ i = 2 ∨ i = 3 ∨ i = 4 ∨ i = 5 ∨ i = 6 ∨ i = 7 ∨ i = 8 ∨ i = 9 ∨ i = 10 ∨ i = 11 := by omega
    rcases hc with rfl | rfl | rfl | rfl | rfl | rfl | rfl | rfl | rfl | rfl | rfl | rfl
    · have e2 := hG.old 2 (by kernel_rfl)
      refine op_do rfl (wanted_none rfl) hK (fun K' hK' => ?_)
      unfold Oper.wp
      go_simp
      exact hK' _ _ (Fr.refl _ _) rfl
    · have e10 := hG.val (v := .pointer (some ⟨a0, 0, none⟩)) 0 10 (hd _ rfl ⟨0, .data⟩ (by simp) rfl) rfl rfl
      have hc2 := hG.grown.blk HA.out.1 (by simp)
      have hc3 := hG.grown.blk HA.out.2 (by simp)
      have d0 := hc2.at 0 (v := .int .i32 0) rfl
      have d1 := hc2.at 1 (v := .int .i32 0) rfl
      have d2 := hc3.at 0 (v := .int .i32 3) rfl
      have d3 := hc3.at 1 (v := .int .i32 4) rfl
      clear hc2 hc3
      refine op_do rfl (wanted_none rfl) hK (fun K' hK' => ?_)
      unfold Oper.wp
      go_simp
      exact hK' _ _ (Fr.refl _ _) rfl
    · have e3 := hG.old 3 (by kernel_rfl)
      refine op_do rfl (wanted_none rfl) hK (fun K' hK' => ?_)
      unfold Oper.wp
      go_simp
      exact hK' _ _ (Fr.refl _ _) rfl
    · have e12 := hG.val (v := .pointer (some ⟨c1, 0, none⟩)) 2 12 (hd _ rfl ⟨2, .data⟩ (by simp) rfl) rfl rfl
      have hc2 := hG.grown.blk HA.out.1 (by simp)
      have hc3 := hG.grown.blk HA.out.2 (by simp)
      have d0 := hc2.at 0 (v := .int .i32 0) rfl
      have d1 := hc2.at 1 (v := .int .i32 0) rfl
      have d2 := hc3.at 0 (v := .int .i32 3) rfl
      have d3 := hc3.at 1 (v := .int .i32 4) rfl
      clear hc2 hc3
      refine op_do rfl (wanted_none rfl) hK (fun K' hK' => ?_)
      unfold Oper.wp
      go_simp
      exact hK' _ _ (Fr.refl _ _) rfl
    · have e11 := hG.val (v := .int .i32 0) 1 11 (hd _ rfl ⟨1, .data⟩ (by simp) rfl) rfl rfl
      have e13 := hG.val (v := .int .i32 3) 3 13 (hd _ rfl ⟨3, .data⟩ (by simp) rfl) rfl rfl
      refine op_do rfl (wanted_none rfl) hK (fun K' hK' => ?_)
      unfold Oper.wp
      go_simp
      refine (size_any W1 0 3 HI.out.1 HI.out.2.2.1).mono ?_
      rintro e W2 ⟨rfl, rfl⟩
      exact hK' _ _ (Fr.refl _ _) rfl
    · have e2 := hG.old 2 (by kernel_rfl)
      refine op_do rfl (wanted_none rfl) hK (fun K' hK' => ?_)
      unfold Oper.wp
      go_simp
      exact hK' _ _ (Fr.refl _ _) rfl
    · have e15 := hG.val (v := .pointer (some ⟨a0, 1, none⟩)) 5 15 (hd _ rfl ⟨5, .data⟩ (by simp) rfl) rfl rfl
      have hc2 := hG.grown.blk HA.out.1 (by simp)
      have hc3 := hG.grown.blk HA.out.2 (by simp)
      have d0 := hc2.at 0 (v := .int .i32 0) rfl
      have d1 := hc2.at 1 (v := .int .i32 0) rfl
      have d2 := hc3.at 0 (v := .int .i32 3) rfl
      have d3 := hc3.at 1 (v := .int .i32 4) rfl
      clear hc2 hc3
      refine op_do rfl (wanted_none rfl) hK (fun K' hK' => ?_)
      unfold Oper.wp
      go_simp
      exact hK' _ _ (Fr.refl _ _) rfl
    · have e3 := hG.old 3 (by kernel_rfl)
      refine op_do rfl (wanted_none rfl) hK (fun K' hK' => ?_)
      unfold Oper.wp
      go_simp
      exact hK' _ _ (Fr.refl _ _) rfl
    · have e17 := hG.val (v := .pointer (some ⟨c1, 1, none⟩)) 7 17 (hd _ rfl ⟨7, .data⟩ (by simp) rfl) rfl rfl
      have hc2 := hG.grown.blk HA.out.1 (by simp)
      have hc3 := hG.grown.blk HA.out.2 (by simp)
      have d0 := hc2.at 0 (v := .int .i32 0) rfl
      have d1 := hc2.at 1 (v := .int .i32 0) rfl
      have d2 := hc3.at 0 (v := .int .i32 3) rfl
      have d3 := hc3.at 1 (v := .int .i32 4) rfl
      clear hc2 hc3
      refine op_do rfl (wanted_none rfl) hK (fun K' hK' => ?_)
      unfold Oper.wp
      go_simp
      exact hK' _ _ (Fr.refl _ _) rfl
    · have e16 := hG.val (v := .int .i32 0) 6 16 (hd _ rfl ⟨6, .data⟩ (by simp) rfl) rfl rfl
      have e18 := hG.val (v := .int .i32 4) 8 18 (hd _ rfl ⟨8, .data⟩ (by simp) rfl) rfl rfl
      refine op_do rfl (wanted_none rfl) hK (fun K' hK' => ?_)
      unfold Oper.wp
      go_simp
      refine (size_any W1 0 4 HI.out.2.1 HI.out.2.2.2).mono ?_
      rintro e W2 ⟨rfl, rfl⟩
      exact hK' _ _ (Fr.refl _ _) rfl
    · have e14 := hG.val (v := .int .u64 (dAbs 0 3)) 4 14 (hd _ rfl ⟨4, .data⟩ (by simp) rfl) rfl rfl
      refine op_do rfl (wanted_none rfl) hK (fun K' hK' => ?_)
      unfold Oper.wp
      go_simp
      exact hK' _ _ (Fr.refl _ _) rfl
    · have e19 := hG.val (v := .int .u64 (dAbs 0 4)) 9 19 (hd _ rfl ⟨9, .data⟩ (by simp) rfl) rfl rfl
      refine op_do rfl (wanted_none rfl) hK (fun K' hK' => ?_)
      unfold Oper.wp
      go_simp
      exact hK' _ _ (Fr.refl _ _) rfl
  · intro vs W1 f1 hv
    have r0 : vs 0 = .pointer (some ⟨a0, 0, none⟩) := hv 0 10 (by decide) rfl
    have r1 : vs 1 = .int .i32 0 := hv 1 11 (by decide) rfl
    have r2 : vs 2 = .pointer (some ⟨c1, 0, none⟩) := hv 2 12 (by decide) rfl
    have r3 : vs 3 = .int .i32 3 := hv 3 13 (by decide) rfl
    have r4 : vs 4 = .int .u64 (dAbs 0 3) := hv 4 14 (by decide) rfl
    have r5 : vs 5 = .pointer (some ⟨a0, 1, none⟩) := hv 5 15 (by decide) rfl
    have r6 : vs 6 = .int .i32 0 := hv 6 16 (by decide) rfl
    have r7 : vs 7 = .pointer (some ⟨c1, 1, none⟩) := hv 7 17 (by decide) rfl
    have r8 : vs 8 = .int .i32 4 := hv 8 18 (by decide) rfl
    have r9 : vs 9 = .int .u64 (dAbs 0 4) := hv 9 19 (by decide) rfl
    have r10 : vs 10 = .int .u64 (dAbs 0 3) := hv 10 5 (by decide) rfl
    have r11 : vs 11 = .int .u64 (dAbs 0 4) := hv 11 6 (by decide) rfl
    simp only [lay, List.foldl_cons, List.foldl_nil, r0, r1, r2, r3, r4, r5, r6, r7, r8, r9, r10, r11]
    simp only [List.setIfInBounds_toArray, List.set_cons_zero, List.set_cons_succ]
    clear hv r0 r1 r2 r3 r4 r5 r6 r7 r8 r9 r10 r11
    have HW := Lib.hid f1
    clear f1
    rw [show ((dAbs 0 3 : Nat) : Int) = 3 by decide, show ((dAbs 0 4 : Nat) : Int) = 4 by decide]
    go_wp2_with fail
    rw [fl25]
    (with_reducible refine (sq25 W1).mono ?_)
    rintro e w2 ⟨rfl, rfl⟩
    go_wp2_with fail
    refine bodyPost_ret (v := .float .f64 4617315517961601024) (by simp [results, Tryd.results98, go_sem]) rfl ⟨rfl, HF.out.trans HW.out (by simp)⟩
theorem quo58 (w : World) : (binOp .quo 102 (.float .f64 4617315517961601024) (.float .f64 (floatOfInt .f64 8))).run Tryd.prog w = .ok (.float .f64 4603804719079489536) w := by kernel_rfl
theorem quo816 (w : World) : (binOp .quo 102 (.float .f64 (floatOfInt .f64 8)) (.float .f64 (floatOfInt .f64 16))).run Tryd.prog w = .ok (.float .f64 4602678819172646912) w := by kernel_rfl
theorem sub580 (w : World) : (binOp .sub 102 (.float .f64 4603804719079489536) (.float .f64 0)).run Tryd.prog w = .ok (.float .f64 4603804719079489536) w := by kernel_rfl
theorem mul5 (w : World) : (binOp .mul 102 (.float .f64 4602678819172646912) (.float .f64 4603804719079489536)).run Tryd.prog w = .ok (.float .f64 4599301119452119040) w := by kernel_rfl
theorem add05 (w : World) : (binOp .add 102 (.float .f64 0) (.float .f64 4599301119452119040)).run Tryd.prog w = .ok (.float .f64 4599301119452119040) w := by kernel_rfl
attribute [local go_sem high] quo58 quo816 sub580 mul5 add05
theorem speed_one (w : World) : Calls Tryd.prog 42 #[.float .f64 0, .agg #[.int .i32 0, .int .i32 0], .agg #[.int .i32 3, .int .i32 4], .int .u32 0, .int .u32 8] w fun e w' => e = .returned (.float .f64 4599301119452119040) ∧ Fr [] w w' := by
  have F0 : Fr [] w ((w.alloc (.cells #[.int .i32 0, .int .i32 0] 98)).alloc (.cells #[.int .i32 3, .int .i32 4] 98)) := ((Fr.refl _ _).alloc _).alloc _
  have HF := Lib.hid F0
  clear F0
  go_enter Tryd.func42, Tryd.ntmps42
  go_wp2_with fail
  (with_reducible refine (dist34 _).mono ?_)
  rintro e w2 ⟨rfl, f2⟩
  have HF2 := Lib.hid f2
  clear f2
  go_wp2_with fail
  refine bodyPost_ret (v := .float .f64 4599301119452119040) (by simp [results, Tryd.results42, go_sem]) rfl ⟨rfl, HF.out.trans HF2.out (by simp)⟩
end Go.Proofs.YtgoolkgjcmdilaaDoor
