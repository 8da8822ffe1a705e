/-
  A table that New did not make: nil, or zero.
-/
import Derived.Test.YtgoolkgjcmdilaaDoorDonC
namespace Go.Proofs.YtgoolkgjcmdilaaDoor
open Go.RowKit
set_option linter.unusedVariables false
set_option linter.unusedSimpArgs false
attribute [local go_sem] Oper.semAt_some

def NoT (W : World) (p : Value) : Prop := p = .pointer none ∨ ∃ b r, p = .pointer (some ⟨b, 0, none⟩) ∧ Blk W b #[.int .i64 r, .slice none 0 0] 68
theorem NoT.grow {W W' : World} {p : Value} (h : NoT W p) (f : Fr [] W W') : NoT W' p := by
  rcases h with h | ⟨b, r, h, hb⟩
  · exact .inl h
  · exact .inr ⟨b, r, h, f.blk hb (by simp)⟩
theorem live_none (w : World) (p : Value) (h : NoT w p) : Calls Tryd.prog 62 #[p] w fun e w' => e = .returned (.bool false) ∧ w = w' := by
  rcases h with rfl | ⟨b, r, rfl, hb⟩
  · go_enter Tryd.func62, Tryd.ntmps62
    go_wp2
    go_ret
    exact ⟨rfl, rfl⟩
  · have c1 := hb.at 1 (v := .slice none 0 0) rfl
    go_enter Tryd.func62, Tryd.ntmps62
    go_wp2
    go_ret
    exact ⟨rfl, rfl⟩
theorem len_none (w : World) (p : Value) (h : NoT w p) : Calls Tryd.prog 73 #[p] w fun e w' => e = .returned (.int .i64 0) ∧ w = w' := by
  have HL := Lib.hid (live_none w p h)
  clear h
  go_enter Tryd.func73, Tryd.ntmps73
  go_wp2_with fail
  (with_reducible refine (HL.out).mono ?_)
  rintro e w1 ⟨rfl, rfl⟩
  go_wp2
  go_ret
  exact ⟨rfl, rfl⟩
theorem room_none (w : World) (p : Value) (h : NoT w p) : Calls Tryd.prog 74 #[p] w fun e w' => e = .returned (.int .i64 0) ∧ w = w' := by
  have HL := Lib.hid (live_none w p h)
  clear h
  go_enter Tryd.func74, Tryd.ntmps74
  go_wp2_with fail
  (with_reducible refine (HL.out).mono ?_)
  rintro e w1 ⟨rfl, rfl⟩
  go_wp2
  go_ret
  exact ⟨rfl, rfl⟩
theorem all_none (w : World) (p : Value) (h : NoT w p) : Calls Tryd.prog 19 #[p] w fun e w' => e = .returned (.func (.func 67) #[] #[.pointer (some ⟨w.heap.size, 0, none⟩)]) ∧ VHeld w.heap.size (.slice none 0 0) [] w' ∧ Fr [] w w' := by
  have f0 : Fr [] w (w.alloc (.cells #[.slice none 0 0] 66)) := (Fr.refl _ _).alloc _
  have hb := Blk.new w #[.slice none 0 0] 66
  have HL := Lib.hid (live_none _ p (h.grow f0))
  have HF := Lib.hid (And.intro f0 hb)
  clear h f0 hb
  go_enter Tryd.func19, Tryd.ntmps19
  go_wp2_with fail
  (with_reducible refine (HL.out).mono ?_)
  rintro e w1 ⟨rfl, rfl⟩
  go_wp2
  go_ret
  exact ⟨rfl, ⟨HF.out.2, World.ownsRow_nil _ _ _ _⟩, HF.out.1⟩
set_option maxRecDepth 100000 in
theorem get_none (w : World) (p : Value) (id : Int) (h : NoT w p) : Calls Tryd.prog 60 #[p, .int .u32 id] w fun e w' => e = .returned (.tuple #[.agg #[.int .i64 0, .string ⟨#[]⟩], .bool false]) ∧ Fr [] w w' := by
  have F0 := ((Fr.refl [] w).alloc (.cells #[.int .i64 0, .string ⟨#[]⟩] 29)).alloc (.cells #[.int .i64 0, .string ⟨#[]⟩] 29)
  have HL := Lib.hid (live_none _ p (h.grow F0))
  have z0 := Blk.new_at (w := w.alloc (.cells #[.int .i64 0, .string ⟨#[]⟩] 29)) (k := w.heap.size + 1) (by simp) #[.int .i64 0, .string ⟨#[]⟩] 29
  have z1 := (Blk.new w #[.int .i64 0, .string ⟨#[]⟩] 29).alloc (.cells #[.int .i64 0, .string ⟨#[]⟩] 29)
  have HF := Lib.hid (And.intro F0 (And.intro z1 z0))
  clear h z0 z1 F0
  go_enter Tryd.func60, Tryd.ntmps60
  go_wp2_with fail
  (with_reducible refine (HL.out).mono ?_)
  rintro e w1 ⟨rfl, hw1⟩
  obtain ⟨F0, zb, zn⟩ := HF.out
  rw [hw1] at F0 zb zn
  clear HF hw1
  have y0 := zb.at 0 (v := .int .i64 0) rfl
  have v0 := zb.free 0
  have y1 := zb.at 1 (v := .string ⟨#[]⟩) rfl
  have v1 := zb.free 1
  have q0 := zn.at 0 (v := .int .i64 0) rfl
  have q1 := zn.at 1 (v := .string ⟨#[]⟩) rfl
  have HG := Lib.hid F0
  clear F0 zb zn
  go_wp2_with fail
  refine bodyPost_ret (v := .tuple #[.agg #[.int .i64 0, .string ⟨#[]⟩], .bool false]) (by simp [results, Tryd.results60, go_sem, y0, y1]) rfl ⟨rfl, ?_⟩
  exact ((((HG.out).setCell ⟨w.heap.size, 0, none⟩ (.int .i64 0) (.inr (Nat.le_refl _)))).setCell ⟨w.heap.size, 1, none⟩ (.string ⟨#[]⟩) (.inr (Nat.le_refl _)))
set_option maxRecDepth 100000 in
set_option maxHeartbeats 1000000 in
theorem del_none (w : World) (p : Value) (id : Int) (h : NoT w p) : Calls Tryd.prog 16 #[p, .int .u32 id] w fun e w' => e = .returned (.tuple #[.agg #[.int .i64 0, .string ⟨#[]⟩], .bool false]) ∧ Fr [] w w' := by
  have F0 := (Fr.refl [] w).alloc (.cells #[.int .i64 0, .string ⟨#[]⟩] 29)
  have z0 := Blk.new w #[.int .i64 0, .string ⟨#[]⟩] 29
  have HG := Lib.hid (get_none _ p id (h.grow F0))
  have HF := Lib.hid (And.intro F0 z0)
  clear F0 z0 h
  go_enter Tryd.func16, Tryd.ntmps16
  go_wp2_with fail
  (with_reducible refine (HG.out).mono ?_)
  rintro e w1 ⟨rfl, f1⟩
  have zb := (f1.blk HF.out.2 (by simp)).alloc (.cells #[.int .i64 0, .string ⟨#[]⟩] 29)
  have zn := Blk.new w1 #[.int .i64 0, .string ⟨#[]⟩] 29
  have HK := Lib.hid ((HF.out.1.trans f1 (by simp)).alloc (.cells #[.int .i64 0, .string ⟨#[]⟩] 29))
  have hne : ¬ w1.heap.size = w.heap.size := by have := HF.out.2.lt; have := f1.size; simp at *; omega
  have y0 := zb.at 0 (v := .int .i64 0) rfl
  have v0 := zb.free 0
  have q0 := zn.at 0 (v := .int .i64 0) rfl
  have y1 := zb.at 1 (v := .string ⟨#[]⟩) rfl
  have v1 := zb.free 1
  have q1 := zn.at 1 (v := .string ⟨#[]⟩) rfl
  obtain ⟨z9, hz9⟩ : ∃ z, z = w1.heap.size := ⟨_, rfl⟩
  clear f1 zb zn
  go_upto_region 2 with fail
  simp only [← hz9] at *
  clear hz9
  generalize w1.alloc _ = w2 at *
  go_wp2_with fail
  refine bodyPost_ret (v := .tuple #[.agg #[.int .i64 0, .string ⟨#[]⟩], .bool false]) (by simp [results, Tryd.results16, go_sem, y0, y1]) rfl ⟨rfl, ?_⟩
  exact ((((HK.out).setCell ⟨w.heap.size, 0, none⟩ (.int .i64 0) (.inr (Nat.le_refl _)))).setCell ⟨w.heap.size, 1, none⟩ (.string ⟨#[]⟩) (.inr (Nat.le_refl _)))
set_option maxRecDepth 100000 in
set_option maxHeartbeats 1000000 in
theorem next_none (w : World) (p : Value) (id : Int) (all : Bool) (h : NoT w p) : Calls Tryd.prog 15 #[p, .int .u32 id, .bool all] w fun e w' => e = .returned (.tuple #[.int .u32 0, .agg #[.int .i64 0, .string ⟨#[]⟩], .bool false]) ∧ Fr [] w w' := by
  have F0 := ((Fr.refl [] w).alloc (.cells #[.int .i64 0, .string ⟨#[]⟩] 29)).alloc (.cells #[.int .i64 0, .string ⟨#[]⟩] 29)
  have HL := Lib.hid (live_none _ p (h.grow F0))
  have z0 := Blk.new_at (w := w.alloc (.cells #[.int .i64 0, .string ⟨#[]⟩] 29)) (k := w.heap.size + 1) (by simp) #[.int .i64 0, .string ⟨#[]⟩] 29
  have z1 := (Blk.new w #[.int .i64 0, .string ⟨#[]⟩] 29).alloc (.cells #[.int .i64 0, .string ⟨#[]⟩] 29)
  have HF := Lib.hid (And.intro F0 (And.intro z1 z0))
  clear h z0 z1 F0
  go_enter Tryd.func15, Tryd.ntmps15
  go_wp2_with fail
  (with_reducible refine (HL.out).mono ?_)
  rintro e w1 ⟨rfl, hw1⟩
  obtain ⟨F0, zb, zn⟩ := HF.out
  rw [hw1] at F0 zb zn
  clear HF hw1
  have y0 := zb.at 0 (v := .int .i64 0) rfl
  have v0 := zb.free 0
  have y1 := zb.at 1 (v := .string ⟨#[]⟩) rfl
  have v1 := zb.free 1
  have q0 := zn.at 0 (v := .int .i64 0) rfl
  have q1 := zn.at 1 (v := .string ⟨#[]⟩) rfl
  have HG := Lib.hid F0
  clear F0 zb zn
  go_wp2_with fail
  go_region
  simp only [Exit.then]
  go_wp2_with fail
  refine bodyPost_ret (v := .tuple #[.int .u32 0, .agg #[.int .i64 0, .string ⟨#[]⟩], .bool false]) (by simp [results, Tryd.results15, go_sem, y0, y1]) rfl ⟨rfl, ?_⟩
  first
    | exact ((((HG.out).drew.setCell ⟨w.heap.size, 0, none⟩ (.int .i64 0) (.inr (Nat.le_refl _)))).setCell ⟨w.heap.size, 1, none⟩ (.string ⟨#[]⟩) (.inr (Nat.le_refl _)))
    | exact ((((HG.out).setCell ⟨w.heap.size, 0, none⟩ (.int .i64 0) (.inr (Nat.le_refl _)))).setCell ⟨w.heap.size, 1, none⟩ (.string ⟨#[]⟩) (.inr (Nat.le_refl _))).drew
set_option maxRecDepth 100000 in
set_option maxHeartbeats 1000000 in
theorem put_none (w : World) (p : Value) (id n : Int) (s : ByteArray) (h : NoT w p) : Calls Tryd.prog 13 #[p, .int .u32 id, .agg #[.int .i64 n, .string s]] w fun e w' => e = .returned (.tuple #[.agg #[.int .i64 0, .string ⟨#[]⟩], .int .i64 1]) ∧ Fr [] w w' := by
  have F0 := (((Fr.refl [] w).alloc (.cells #[.int .i64 n, .string s] 29)).alloc (.cells #[.int .i64 0, .string ⟨#[]⟩] 29)).alloc (.cells #[.int .i64 0, .string ⟨#[]⟩] 29)
  have HL := Lib.hid (live_none _ p (h.grow F0))
  have z0 := Blk.new_at (w := (w.alloc (.cells #[.int .i64 n, .string s] 29)).alloc (.cells #[.int .i64 0, .string ⟨#[]⟩] 29)) (k := w.heap.size + 1 + 1) (by simp) #[.int .i64 0, .string ⟨#[]⟩] 29
  have z1 := (Blk.new_at (w := w.alloc (.cells #[.int .i64 n, .string s] 29)) (k := w.heap.size + 1) (by simp) #[.int .i64 0, .string ⟨#[]⟩] 29).alloc (.cells #[.int .i64 0, .string ⟨#[]⟩] 29)
  have HF := Lib.hid (And.intro F0 (And.intro z1 z0))
  clear h z0 z1 F0
  go_enter Tryd.func13, Tryd.ntmps13
  go_wp2_with fail
  (with_reducible refine (HL.out).mono ?_)
  rintro e w1 ⟨rfl, hw1⟩
  obtain ⟨F0, zb, zn⟩ := HF.out
  rw [hw1] at F0 zb zn
  clear HF hw1
  have y0 := zb.at 0 (v := .int .i64 0) rfl
  have v0 := zb.free 0
  have y1 := zb.at 1 (v := .string ⟨#[]⟩) rfl
  have v1 := zb.free 1
  have q0 := zn.at 0 (v := .int .i64 0) rfl
  have q1 := zn.at 1 (v := .string ⟨#[]⟩) rfl
  have HG := Lib.hid F0
  clear F0 zb zn
  go_wp2_with fail
  refine bodyPost_ret (v := .tuple #[.agg #[.int .i64 0, .string ⟨#[]⟩], .int .i64 1]) (by simp [results, Tryd.results13, go_sem, y0, y1]) rfl ⟨rfl, ?_⟩
  exact ((((HG.out).setCell ⟨w.heap.size + 1, 0, none⟩ (.int .i64 0) (.inr (by simp)))).setCell ⟨w.heap.size + 1, 1, none⟩ (.string ⟨#[]⟩) (.inr (by simp)))
end Go.Proofs.YtgoolkgjcmdilaaDoor
