/-
  TrackNil's walk.
-/
import Derived.Test.YtgoolkgjcmdilaaDoorTraH
import Derived.Test.YtgoolkgjcmdilaaDoorTraF
namespace Go.Proofs.YtgoolkgjcmdilaaDoor
open Go.RowKit
set_option linter.unusedVariables false
set_option linter.unusedSimpArgs false
attribute [local go_sem] Oper.semAt_some

theorem nok_nil (w : World) : NoK w none := Or.inl rfl
set_option maxRecDepth 100000 in
theorem trackNil_walk (w : World) (hT : DeB w) (kd ob fe nu ti px py a0 a1 a2 a3 a4 : Int) (sp : Nat) (up : Option Addr) (un uc : Nat) :
    Calls Tryd.prog 10 #[.agg #[.int .i64 kd, .int .u32 ob, .int .u32 fe, .int .u32 nu, .int .u32 ti, .int .i32 px, .int .i32 py, .int .u32 a0, .int .u32 a1, .int .u32 a2, .int .i32 a3, .int .i32 a4, .float .f64 sp, .slice up un uc]] w fun e w' => e = .returned (.bool true) ∧ Fr [] w w' := by
  have F0 : Fr [] w (w.alloc (.cells #[.int .i64 kd, .int .u32 ob, .int .u32 fe, .int .u32 nu, .int .u32 ti, .int .i32 px, .int .i32 py, .int .u32 a0, .int .u32 a1, .int .u32 a2, .int .i32 a3, .int .i32 a4, .float .f64 sp, .slice up un uc] 121)) := (Fr.refl _ _).alloc _
  have hA := Blk.new w #[.int .i64 kd, .int .u32 ob, .int .u32 fe, .int .u32 nu, .int .u32 ti, .int .i32 px, .int .i32 py, .int .u32 a0, .int .u32 a1, .int .u32 a2, .int .i32 a3, .int .i32 a4, .float .f64 sp, .slice up un uc] 121
  have d0 := hA.at 0 (v := .int .i64 kd) rfl
  have d1 := hA.at 1 (v := .int .u32 ob) rfl
  have d2 := hA.at 2 (v := .int .u32 fe) rfl
  have d3 := hA.at 3 (v := .int .u32 nu) rfl
  have d4 := hA.at 4 (v := .int .u32 ti) rfl
  have d5 := hA.at 5 (v := .int .i32 px) rfl
  have d6 := hA.at 6 (v := .int .i32 py) rfl
  have d7 := hA.at 7 (v := .int .u32 a0) rfl
  have d8 := hA.at 8 (v := .int .u32 a1) rfl
  have d9 := hA.at 9 (v := .int .u32 a2) rfl
  have d10 := hA.at 10 (v := .int .i32 a3) rfl
  have d11 := hA.at 11 (v := .int .i32 a4) rfl
  have d12 := hA.at 12 (v := .float .f64 sp) rfl
  have d13 := hA.at 13 (v := .slice up un uc) rfl
  have HT := Lib.hid hT
  have HA := Lib.hid (And.intro F0 hA)
  clear hT F0 hA
  go_enter Tryd.func10, Tryd.ntmps10
  go_wp2_with fail
  (with_reducible refine (empty_any _ none kd ob fe nu ti px py a0 a1 a2 a3 a4 sp up un uc (nok_nil _)).mono ?_)
  rintro e w1 ⟨rfl, f1⟩
  have F2 : Fr [] w1 (w1.alloc (.cells #[.pointer none, .pointer none, .pointer none] 138)) := (Fr.refl _ _).alloc _
  have hZ : NoK (w1.alloc (.cells #[.pointer none, .pointer none, .pointer none] 138)) (some ⟨w1.heap.size, 0, none⟩) := Or.inr ⟨_, rfl, Blk.new _ _ _⟩
  have f12 := (HA.out.1.trans f1 (by simp)).trans F2 (by simp)
  have hA2 := (f1.trans F2 (by simp)).blk HA.out.2 (by simp)
  clear d0 d1 d2 d3 d4 d5 d6 d7 d8 d9 d10 d11 d12 d13
  have d0 := hA2.at 0 (v := .int .i64 kd) rfl
  have d1 := hA2.at 1 (v := .int .u32 ob) rfl
  have d2 := hA2.at 2 (v := .int .u32 fe) rfl
  have d3 := hA2.at 3 (v := .int .u32 nu) rfl
  have d4 := hA2.at 4 (v := .int .u32 ti) rfl
  have d5 := hA2.at 5 (v := .int .i32 px) rfl
  have d6 := hA2.at 6 (v := .int .i32 py) rfl
  have d7 := hA2.at 7 (v := .int .u32 a0) rfl
  have d8 := hA2.at 8 (v := .int .u32 a1) rfl
  have d9 := hA2.at 9 (v := .int .u32 a2) rfl
  have d10 := hA2.at 10 (v := .int .i32 a3) rfl
  have d11 := hA2.at 11 (v := .int .i32 a4) rfl
  have d12 := hA2.at 12 (v := .float .f64 sp) rfl
  have d13 := hA2.at 13 (v := .slice up un uc) rfl
  have HZ := Lib.hid (And.intro hZ f12)
  clear F2 hZ f12 hA2 f1
  go_wp2_with fail
  (with_reducible refine (empty_any _ _ kd ob fe nu ti px py a0 a1 a2 a3 a4 sp up un uc HZ.out.1).mono ?_)
  rintro e w3 ⟨rfl, f3⟩
  have H3 := Lib.hid (HZ.out.2.trans f3 (by simp))
  clear f3 d0 d1 d2 d3 d4 d5 d6 d7 d8 d9 d10 d11 d12 d13
  go_wp2_with fail
  (with_reducible refine (works_any w3 (deB_fr2 HT.out H3.out)).mono ?_)
  rintro e w4 ⟨rfl, f4⟩
  have H4 := Lib.hid (H3.out.trans f4 (by simp))
  clear f4
  go_wp2_with fail
  refine bodyPost_ret (v := .bool true) (by simp [results, Tryd.results10, go_sem]) rfl ⟨rfl, H4.out⟩
end Go.Proofs.YtgoolkgjcmdilaaDoor
