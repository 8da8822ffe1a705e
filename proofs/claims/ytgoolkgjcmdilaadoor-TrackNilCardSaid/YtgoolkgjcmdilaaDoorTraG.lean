/-
  A nil Book, and a zero one: the methods.
-/
import Derived.Test.YtgoolkgjcmdilaaDoorTraA
namespace Go.Proofs.YtgoolkgjcmdilaaDoor
open Go.RowKit
set_option linter.unusedVariables false
set_option linter.unusedSimpArgs false
attribute [local go_sem] Oper.semAt_some

@[go_sem] theorem run_store_float {P : Program} {w : World} {m : Mode} (a : Addr) (k : FloatKind) (b : Nat) : (store a (.float k b) m).run P w = stored P w a (.float k b) m := run_store P w a _ m rfl
/-- A nil Book or a zero one. -/
def NoK (w : World) (p : Option Addr) : Prop := p = none ∨ ∃ k, p = some ⟨k, 0, none⟩ ∧ Bk0 w k
theorem NoK.grow {w W : World} {p : Option Addr} (h : NoK w p) (f : Fr [] w W) : NoK W p := by
  rcases h with h | ⟨k, h, hk⟩
  · exact .inl h
  · exact .inr ⟨k, h, f.blk hk (by simp)⟩
theorem there_no (w : World) (p : Option Addr) (h : NoK w p) : Calls Tryd.prog 108 #[.pointer p] w fun e w' => e = .returned (.bool false) ∧ w = w' := by
  rcases h with rfl | ⟨k, rfl, h⟩
  · exact there_nil w
  · exact there_zero w k h
set_option maxRecDepth 100000 in
theorem len_no (w : World) (p : Option Addr) (h : NoK w p) : Calls Tryd.prog 97 #[.pointer p] w fun e w' => e = .returned (.int .i64 0) ∧ w = w' := by
  have HC := Lib.hid (there_no w p h)
  clear h
  go_enter Tryd.func97, Tryd.ntmps97
  go_wp2_with fail
  (with_reducible refine (HC.out).mono ?_)
  rintro e w1 ⟨rfl, rfl⟩
  go_wp2_with fail
  refine bodyPost_ret (v := .int .i64 0) (by simp [results, Tryd.results97, go_sem]) rfl ⟨rfl, rfl⟩
set_option maxRecDepth 100000 in
theorem both_no (w : World) (p : Option Addr) (id fe : Int) (h : NoK w p) : Calls Tryd.prog 137 #[.pointer p, .int .u32 id, .int .u32 fe] w fun e w' => e = .returned (.tuple #[.pointer none, .int .i64 0, .int .i64 1]) ∧ w = w' := by
  have HC := Lib.hid (there_no w p h)
  clear h
  go_enter Tryd.func137, Tryd.ntmps137
  go_wp2_with fail
  (with_reducible refine (HC.out).mono ?_)
  rintro e w1 ⟨rfl, rfl⟩
  go_wp2_with fail
  refine bodyPost_ret (v := .tuple #[.pointer none, .int .i64 0, .int .i64 1]) (by simp [results, Tryd.results137, go_sem]) rfl ⟨rfl, rfl⟩
set_option maxRecDepth 100000 in
theorem enter_no (w : World) (p : Option Addr) (id fe : Int) (h : NoK w p) : Calls Tryd.prog 95 #[.pointer p, .int .u32 id, .int .u32 fe] w fun e w' => e = .returned (.tuple #[.bool false, .int .i64 1]) ∧ w = w' := by
  have HC := Lib.hid (both_no w p id fe h)
  clear h
  go_enter Tryd.func95, Tryd.ntmps95
  go_wp2_with fail
  (with_reducible refine (HC.out).mono ?_)
  rintro e w1 ⟨rfl, rfl⟩
  go_wp2_with fail
  refine bodyPost_ret (v := .tuple #[.bool false, .int .i64 1]) (by simp [results, Tryd.results95, go_sem]) rfl ⟨rfl, rfl⟩
set_option maxRecDepth 100000 in
theorem leave_no (w : World) (p : Option Addr) (id fe : Int) (h : NoK w p) : Calls Tryd.prog 124 #[.pointer p, .int .u32 id, .int .u32 fe] w fun e w' => e = .returned (.tuple #[.bool false, .int .i64 1]) ∧ w = w' := by
  have HC := Lib.hid (both_no w p id fe h)
  clear h
  go_enter Tryd.func124, Tryd.ntmps124
  go_wp2_with fail
  (with_reducible refine (HC.out).mono ?_)
  rintro e w1 ⟨rfl, rfl⟩
  go_wp2_with fail
  refine bodyPost_ret (v := .tuple #[.bool false, .int .i64 1]) (by simp [results, Tryd.results124, go_sem]) rfl ⟨rfl, rfl⟩
set_option maxRecDepth 100000 in
theorem in_no (w : World) (p : Option Addr) (id fe : Int) (h : NoK w p) : Calls Tryd.prog 96 #[.pointer p, .int .u32 id, .int .u32 fe] w fun e w' => e = .returned (.bool false) ∧ w = w' := by
  have HC := Lib.hid (both_no w p id fe h)
  clear h
  go_enter Tryd.func96, Tryd.ntmps96
  go_wp2_with fail
  (with_reducible refine (HC.out).mono ?_)
  rintro e w1 ⟨rfl, rfl⟩
  go_wp2_with fail
  refine bodyPost_ret (v := .bool false) (by simp [results, Tryd.results96, go_sem]) rfl ⟨rfl, rfl⟩
set_option maxRecDepth 100000 in
theorem addF_no (w : World) (p : Option Addr) (id : Int) (h : NoK w p) : Calls Tryd.prog 94 #[.pointer p, .int .u32 id] w fun e w' => e = .returned (.int .i64 1) ∧ w = w' := by
  have HC := Lib.hid (there_no w p h)
  clear h
  go_enter Tryd.func94, Tryd.ntmps94
  go_wp2_with fail
  (with_reducible refine (HC.out).mono ?_)
  rintro e w1 ⟨rfl, rfl⟩
  go_wp2_with fail
  refine bodyPost_ret (v := .int .i64 1) (by simp [results, Tryd.results94, go_sem]) rfl ⟨rfl, rfl⟩
set_option maxRecDepth 100000 in
theorem dropF_no (w : World) (p : Option Addr) (id : Int) (h : NoK w p) : Calls Tryd.prog 122 #[.pointer p, .int .u32 id] w fun e w' => e = .returned (.bool false) ∧ w = w' := by
  have HC := Lib.hid (there_no w p h)
  clear h
  go_enter Tryd.func122, Tryd.ntmps122
  go_wp2_with fail
  (with_reducible refine (HC.out).mono ?_)
  rintro e w1 ⟨rfl, rfl⟩
  go_wp2_with fail
  refine bodyPost_ret (v := .bool false) (by simp [results, Tryd.results122, go_sem]) rfl ⟨rfl, rfl⟩
set_option maxRecDepth 100000 in
theorem forget_no (w : World) (p : Option Addr) (id : Int) (h : NoK w p) : Calls Tryd.prog 119 #[.pointer p, .int .u32 id] w fun e w' => e = .returned (.bool false) ∧ w = w' := by
  have HC := Lib.hid (there_no w p h)
  clear h
  go_enter Tryd.func119, Tryd.ntmps119
  go_wp2_with fail
  (with_reducible refine (HC.out).mono ?_)
  rintro e w1 ⟨rfl, rfl⟩
  go_wp2_with fail
  refine bodyPost_ret (v := .bool false) (by simp [results, Tryd.results119, go_sem]) rfl ⟨rfl, rfl⟩
set_option maxRecDepth 100000 in
theorem inside_no (w : World) (p : Option Addr) (id : Int) (h : NoK w p) : Calls Tryd.prog 57 #[.pointer p, .int .u32 id] w fun e w' => e = .returned (.slice none 0 0) ∧ w = w' := by
  have HC := Lib.hid (there_no w p h)
  clear h
  go_enter Tryd.func57, Tryd.ntmps57
  go_wp2_with fail
  (with_reducible refine (HC.out).mono ?_)
  rintro e w1 ⟨rfl, rfl⟩
  go_wp2_with fail
  refine bodyPost_ret (v := .slice none 0 0) (by simp [results, Tryd.results57, go_sem]) rfl ⟨rfl, rfl⟩
set_option maxRecDepth 100000 in
theorem move_no (w : World) (p : Option Addr) (id num t px py : Int) (h : NoK w p) : Calls Tryd.prog 93 #[.pointer p, .int .u32 id, .int .u32 num, .int .u32 t, .agg #[.int .i32 px, .int .i32 py]] w fun e w' => e = .returned (.tuple #[.agg #[.int .i32 0, .int .i32 0], .bool false, .int .i64 1]) ∧ Fr [] w w' := by
  have F0 : Fr [] w ((w.alloc (.cells #[.int .i32 px, .int .i32 py] 98)).alloc (.cells #[.int .i32 0, .int .i32 0] 98)) := ((Fr.refl _ _).alloc _).alloc _
  have hR := Blk.new (w.alloc (.cells #[.int .i32 px, .int .i32 py] 98)) #[.int .i32 0, .int .i32 0] 98
  rw [show (w.alloc (.cells #[.int .i32 px, .int .i32 py] 98)).heap.size = w.heap.size + 1 by simp] at hR
  have HC := Lib.hid (there_no _ p (h.grow F0))
  have HF := Lib.hid (And.intro F0 hR)
  have hR0 := hR.at 0 (v := .int .i32 0) rfl
  have hR1 := hR.at 1 (v := .int .i32 0) rfl
  have hF0 := hR.free 0
  have hF1 := hR.free 1
  clear h F0 hR
  go_enter Tryd.func93, Tryd.ntmps93
  go_wp2_with fail
  (with_reducible refine (HC.out).mono ?_)
  rintro e w1 ⟨rfl, rfl⟩
  go_wp2_with fail
  refine bodyPost_ret (v := .tuple #[.agg #[.int .i32 0, .int .i32 0], .bool false, .int .i64 1]) (by simp [results, Tryd.results93, go_sem, hR0, hR1]) rfl ⟨rfl, HF.out.1⟩
set_option maxRecDepth 100000 in
theorem lay_no (w : World) (p : Option Addr) (id num t px py : Int) (sp : Nat) (up : Option Addr) (un uc : Nat) (h : NoK w p) : Calls Tryd.prog 117 #[.pointer p, .agg #[.int .u32 id, .int .u32 num, .int .u32 t, .int .i32 px, .int .i32 py, .float .f64 sp, .slice up un uc]] w fun e w' => e = .returned (.int .i64 1) ∧ Fr [] w w' := by
  have F0 : Fr [] w (w.alloc (.cells #[.int .u32 id, .int .u32 num, .int .u32 t, .int .i32 px, .int .i32 py, .float .f64 sp, .slice up un uc] 119)) := (Fr.refl _ _).alloc _
  have HC := Lib.hid (there_no _ p (h.grow F0))
  have HF := Lib.hid F0
  clear h F0
  go_enter Tryd.func117, Tryd.ntmps117
  go_wp2_with fail
  (with_reducible refine (HC.out).mono ?_)
  rintro e w1 ⟨rfl, rfl⟩
  go_wp2_with fail
  refine bodyPost_ret (v := .int .i64 1) (by simp [results, Tryd.results117, go_sem]) rfl ⟨rfl, HF.out⟩
set_option maxRecDepth 100000 in
theorem get_no (w : World) (p : Option Addr) (id : Int) (h : NoK w p) : Calls Tryd.prog 114 #[.pointer p, .int .u32 id] w fun e w' => e = .returned (.tuple #[.agg #[.int .u32 0, .int .u32 0, .int .u32 0, .int .i32 0, .int .i32 0, .float .f64 0, .slice none 0 0], .bool false]) ∧ Fr [] w w' := by
  have F0 : Fr [] w (w.alloc (.cells #[.int .u32 0, .int .u32 0, .int .u32 0, .int .i32 0, .int .i32 0, .float .f64 0, .slice none 0 0] 119)) := (Fr.refl _ _).alloc _
  have hR := Blk.new w #[.int .u32 0, .int .u32 0, .int .u32 0, .int .i32 0, .int .i32 0, .float .f64 0, .slice none 0 0] 119
  have HC := Lib.hid (there_no _ p (h.grow F0))
  have HF := Lib.hid (And.intro F0 hR)
  clear h F0 hR
  go_enter Tryd.func114, Tryd.ntmps114
  go_wp2_with fail
  (with_reducible refine (HC.out).mono ?_)
  rintro e w1 ⟨rfl, rfl⟩
  go_wp2_with fail
  have hR := HF.out.2
  have e0 := hR.at 0 (v := .int .u32 0) rfl
  have e1 := hR.at 1 (v := .int .u32 0) rfl
  have e2 := hR.at 2 (v := .int .u32 0) rfl
  have e3 := hR.at 3 (v := .int .i32 0) rfl
  have e4 := hR.at 4 (v := .int .i32 0) rfl
  have e5 := hR.at 5 (v := .float .f64 0) rfl
  have e6 := hR.at 6 (v := .slice none 0 0) rfl
  refine bodyPost_ret (v := .tuple #[.agg #[.int .u32 0, .int .u32 0, .int .u32 0, .int .i32 0, .int .i32 0, .float .f64 0, .slice none 0 0], .bool false]) (by simp [results, Tryd.results114, go_sem, e0, e1, e2, e3, e4, e5, e6]) rfl ⟨rfl, HF.out.1⟩
set_option maxRecDepth 100000 in
theorem all_no (w : World) (p : Option Addr) (h : NoK w p) : Calls Tryd.prog 52 #[.pointer p] w fun e w' => e = .returned (.func (.func 111) #[] #[.pointer (some ⟨w.heap.size + 1, 0, none⟩)]) ∧ Blk w' (w.heap.size + 1) #[.slice none 0 0] 125 ∧ Fr [] w w' := by
  have F0 : Fr [] w ((w.alloc (.cells #[.pointer p] 112)).alloc (.cells #[.slice none 0 0] 125)) := ((Fr.refl _ _).alloc _).alloc _
  have hA := (Blk.new w #[.pointer p] 112).alloc (.cells #[.slice none 0 0] 125)
  have hR := Blk.new (w.alloc (.cells #[.pointer p] 112)) #[.slice none 0 0] 125
  rw [show (w.alloc (.cells #[.pointer p] 112)).heap.size = w.heap.size + 1 by simp] at hR
  have d0 := hA.at 0 (v := .pointer p) rfl
  have HC := Lib.hid (there_no _ p (h.grow F0))
  have HF := Lib.hid (And.intro F0 hR)
  clear h F0 hR hA
  go_enter Tryd.func52, Tryd.ntmps52
  go_wp2_with fail
  (with_reducible refine (HC.out).mono ?_)
  rintro e w1 ⟨rfl, rfl⟩
  go_wp2_with fail
  refine bodyPost_ret (v := .func (.func 111) #[] #[.pointer (some ⟨w.heap.size + 1, 0, none⟩)]) (by simp [results, Tryd.results52, go_sem]) rfl ⟨rfl, HF.out.2, HF.out.1⟩
end Go.Proofs.YtgoolkgjcmdilaaDoor
