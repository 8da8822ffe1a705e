/-
  The document's Heading, by contract.
-/
import Derived.Test.YtkbcdfniocmamaaMapR
namespace Go.Proofs.Ytkbcdfniocmamaa
open Go.RowKit Flo
set_option linter.unusedVariables false

theorem refHeading_any (w : World) (a b c d : Int) (ha : I32 a) (hb : I32 b) (hc : I32 c) (hd : I32 d) : Calls Try.prog 38 #[.agg #[.int .i32 a, .int .i32 b], .agg #[.int .i32 c, .int .i32 d]] w (NRes (HeadOut a b c d) w) := by
  obtain ⟨hb0, hf⟩ : Blk (((w.alloc (.cells #[.int .i32 a, .int .i32 b] 64)).alloc (.cells #[.int .i32 c, .int .i32 d] 64)).alloc (.cells #[.float .f64 0, .float .f64 0] 33)) (w.heap.size + 1 + 1) #[.float .f64 0, .float .f64 0] 33 ∧ Fr [] w (((w.alloc (.cells #[.int .i32 a, .int .i32 b] 64)).alloc (.cells #[.int .i32 c, .int .i32 d] 64)).alloc (.cells #[.float .f64 0, .float .f64 0] 33)) :=
    ⟨Blk.new_at (by simp) _ _, (((Fr.refl [] w).alloc _).alloc _).alloc _⟩
  have hx := ((Blk.new w #[.int .i32 a, .int .i32 b] 64).alloc (.cells #[.int .i32 c, .int .i32 d] 64)).alloc (.cells #[.float .f64 0, .float .f64 0] 33)
  have hy := (Blk.new_at (w := w.alloc (.cells #[.int .i32 a, .int .i32 b] 64)) (k := w.heap.size + 1) (by simp) #[.int .i32 c, .int .i32 d] 64).alloc (.cells #[.float .f64 0, .float .f64 0] 33)
  have HB := Lib.hid hb0
  have HF := Lib.hid hf
  have c0 := hx.at 0 (v := .int .i32 a) rfl
  have c1 := hx.at 1 (v := .int .i32 b) rfl
  have c2 := hy.at 0 (v := .int .i32 c) rfl
  have c3 := hy.at 1 (v := .int .i32 d) rfl
  have e1 : IntKind.i64.wrap a = a := wrap_i32 ha
  have e2 : IntKind.i64.wrap b = b := wrap_i32 hb
  have e3 : IntKind.i64.wrap c = c := wrap_i32 hc
  have e4 : IntKind.i64.wrap d = d := wrap_i32 hd
  have e5 : wrap64 (c - a) = c - a := IntWalk.wrap64_in _ (by omega)
  have e6 : wrap64 (d - b) = d - b := IntWalk.wrap64_in _ (by omega)
  have z0 := hb0.at 0 (v := .float .f64 0) rfl
  have z1 := hb0.at 1 (v := .float .f64 0) rfl
  have y0 := hb0.free 0
  have y1 := hb0.free 1
  clear hb0 hf hx hy ha hb hc hd
  have EO := Lib.hid (show HeadOut a b c d = fun r i => ((a = c ∧ b = d) ∧ r = 0 ∧ i = 0) ∨ (¬ (a = c ∧ b = d) ∧ HeadR (c - a) (d - b) r i) from rfl)
  generalize HeadOut a b c d = HO at *
  obtain ⟨zs, hzs⟩ : ∃ z, z = w.heap.size := ⟨_, rfl⟩
  by_cases h1 : a = c ∧ b = d
  · have H1 := Lib.hid h1
    obtain ⟨rfl, rfl⟩ := h1
    clear hzs
    go_enter Try.func38, Try.ntmps38
    go_wp2
    refine bodyPost_ret (ret_pair rfl rfl (HB.out.at 0 rfl) (HB.out.at 1 rfl)) rfl ⟨_, _, rfl, ?_, HF.out⟩
    rw [EO.out]
    exact .inl ⟨by simp, rfl, rfl⟩
  · have H1 := Lib.hid h1
    have h2 : ¬ a = c ∨ ¬ b = d := by omega
    clear hzs
    rcases h2 with h2 | h2
    all_goals
      go_enter Try.func38, Try.ntmps38
      go_wp2_with fail
      generalize (World.alloc (World.alloc (World.alloc w _) _) _) = w3 at *
      (with_reducible refine (refLength_any _ _ _).mono ?_)
      rintro e w4 ⟨l, rfl, hl, f4⟩
      have hb4 := f4.blk HB.out (by simp)
      have x0 := hb4.at 0 (v := .float .f64 0) rfl
      have x1 := hb4.at 1 (v := .float .f64 0) rfl
      have v0 := hb4.free 0
      have v1 := hb4.free 1
      have H4 := Lib.hid (And.intro hl (And.intro (HF.out.trans f4 (by simp)) hb4))
      clear hb4 hl f4
      go_wp2
      obtain ⟨q0, q1⟩ := lay2_cells ((H4.out.2.2.give _).give _) (by simp) _ _
      refine bodyPost_ret (ret_pair rfl rfl q0 q1) rfl ⟨_, _, rfl, ?_, Fr.lay2 ((H4.out.2.1.quoW _ _).quoW _ _) _ _ _ (.inr (by omega))⟩
      rw [EO.out]
      exact .inr ⟨H1.out, l, H4.out.1, quoV_gives _ _ _, quoV_gives _ _ _⟩
end Go.Proofs.Ytkbcdfniocmamaa
