/-
  like, of an event and itself; what holds at the head of SendNumbers' loop.
-/
import Derived.Test.YtehdhdocalbfpaaSendE
namespace Go.Proofs.Ytehdhdocalbfpaa
open Go.RowKit ring
set_option linter.unusedVariables false
attribute [local go_sem ↓] Go.wp_at_zero Go.wp_at_succ

theorem eqf54 (s : Nat) (w : World) : (Op.equalIn 9999 54 (.float .f64 s) (.float .f64 s)).run Try.prog w = .ok (Op.floatEq .f64 s s) w := by
  rw [show (9999 : Nat) = 9998 + 1 from rfl, Op.equalIn]
  simp [go_sem]
theorem eql56_same (x : Ev) (h : Op.floatEq .f64 x.s x.s = true) (w : World) : (binOp .eql 56 x.val x.val).run Try.prog w = .ok (.bool true) w := by
  unfold Ev.val
  obtain ⟨k, o, f, n, x, y, c, s⟩ := x
  have h2 : Op.floatEq .f64 s s = true := h
  simp [go_sem, eqf54, h2]
def newEv (v : Value) : Sem Addr := newVar 56 v
theorem newVar56 (v : Value) : newVar 56 v = newEv v := rfl
theorem run_newEv (w : World) (x : Ev) : (newEv x.val).run Try.prog w = .ok ⟨w.heap.size, 0, none⟩ (w.alloc (.cells x.cells.toArray 56)) := by
  rfl
theorem run_newEv' (w : World) (cs : Array Value) : (newEv (.agg cs)).run Try.prog w = .ok ⟨w.heap.size, 0, none⟩ (w.alloc (.cells cs 56)) := by
  rfl
attribute [local go_sem ↓] newVar56
attribute [local go_sem] run_newEv run_newEv'
@[local go_sem] theorem ev_store_float {P : Program} {w : World} {m : Mode} (a : Addr) (k : FloatKind) (b : Nat) : (store a (.float k b) m).run P w = stored P w a (.float k b) m := run_store P w a _ m rfl
theorem eqg56 (x : Ev) (w : World) : (eqGuard .eql 56 (.tmp 19) (.tmp 20) x.val x.val).run Try.prog w = .ok () w := by
  unfold Ev.val
  first | kernel_rfl | simp [go_sem]
set_option maxRecDepth 100000 in
theorem like_same (w : World) (x : Ev) : Calls Try.prog 22 #[x.val, x.val] w fun e w' => e = .returned (.bool true) ∧ Fr [] w w' := by
  obtain ⟨z, hz⟩ : ∃ z, z = w.heap.size := ⟨_, rfl⟩
  have f1 : Fr [] w ((w.alloc (.cells x.cells.toArray 56)).alloc (.cells x.cells.toArray 56)) := ((Fr.refl [] w).alloc _).alloc _
  have hZ1 := (Blk.new w x.cells.toArray 56).alloc (.cells x.cells.toArray 56)
  have hZ2 := Blk.new (w.alloc (.cells x.cells.toArray 56)) x.cells.toArray 56
  have hsz : (w.alloc (.cells x.cells.toArray 56)).heap.size = w.heap.size + 1 := by simp
  rw [hsz, ← hz] at hZ2
  rw [← hz] at hZ1
  have c7 := hZ1.at 7 (v := .float .f64 x.s) rfl
  have d7 := hZ2.at 7 (v := .float .f64 x.s) rfl
  have g7 := hZ1.free 7
  have k7 := hZ2.free 7
  have e1 := hZ1.one
  have e2 := hZ2.one
  have hb := (Blk.new w ({ x with s := 0 } : Ev).cells.toArray 56).alloc (.cells ({ x with s := 0 } : Ev).cells.toArray 56)
  have hc := Blk.new (w.alloc (.cells ({ x with s := 0 } : Ev).cells.toArray 56)) ({ x with s := 0 } : Ev).cells.toArray 56
  rw [show (w.alloc (.cells ({ x with s := 0 } : Ev).cells.toArray 56)).heap.size = w.heap.size + 1 by simp] at hc
  have e3 := hb.one
  have e4 := hc.one
  rw [show ({ x with s := 0 } : Ev).cells = x.cells.set 7 (.float .f64 0) from rfl] at e3 e4
  have f3 : Fr [] w ((w.alloc (.cells (x.cells.set 7 (.float .f64 0)).toArray 56)).alloc (.cells (x.cells.set 7 (.float .f64 0)).toArray 56)) := ((Fr.refl [] w).alloc _).alloc _
  rw [hz] at c7 d7 g7 k7 e1 e2
  have HZ := Lib.hid hz
  have F1 := Lib.hid f1
  have F3 := Lib.hid f3
  clear hsz hZ1 hZ2 hb hc f1 f3 hz
  by_cases h : FloatKind.f64.format.order x.s x.s = some Ordering.eq
  · have hg : ∀ w, (eqGuard .eql 56 (.tmp 19) (.tmp 20) x.val x.val).run Try.prog w = .ok () w := eqg56 _
    have hq := eql56_same x (by simp [Op.floatEq, h])
    go_enter Try.func22, Try.ntmps22
    go_wp2
    go_ret
    exact ⟨rfl, F1.out⟩
  · have h0 : Op.floatEq .f64 0 0 = true := by decide +kernel
    have hq := eql56_same { x with s := 0 } h0
    have hg : ∀ w, (eqGuard .eql 56 (.tmp 19) (.tmp 20) ({ x with s := 0 } : Ev).val ({ x with s := 0 } : Ev).val).run Try.prog w = .ok () w := eqg56 _
    have h2 : (FloatKind.f64.format.order x.s x.s != some Ordering.eq) = true := by simpa using h
    go_enter Try.func22, Try.ntmps22
    go_wp2
    go_ret
    exact ⟨rfl, F3.out⟩

end Go.Proofs.Ytehdhdocalbfpaa
