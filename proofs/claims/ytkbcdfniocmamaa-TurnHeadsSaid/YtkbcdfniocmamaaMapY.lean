/-
  small, whole and quarter of the statements, by contracts.
-/
import Derived.Test.YtkbcdfniocmamaaFloS
import Derived.Test.YtkbcdfniocmamaaMapR
import Derived.Test.YtkbcdfniocmamaaMapA
import Derived.StillTailTactics
namespace Go.Proofs.Ytkbcdfniocmamaa
open Go.RowKit Flo
set_option linter.unusedVariables false

/-- A whole number of a size of at most 65536, as a float. -/
def sm (n : Int) : Nat := fl (n.tmod 65537)
theorem small_any (w : World) (n : Int) (hn : I32 n) : Calls Try.prog 28 #[.int .i32 n] w fun e w' => e = .returned (.float .f64 (sm n)) ∧ w = w' := by
  have e1 : wrap32 (n.tmod 65537) = n.tmod 65537 := by
    have h1 := Int.tmod_lt_of_pos n (show (0 : Int) < 65537 by omega)
    have h2 := Int.lt_tmod_of_pos n (show (0 : Int) < 65537 by omega)
    unfold wrap32; omega
  have HS := Lib.hid (show sm n = fl (n.tmod 65537) from rfl)
  clear hn
  go_enter Try.func28, Try.ntmps28
  go_wp2
  go_ret
  refine ⟨?_, rfl⟩
  rw [HS.out]
  rfl
/-! ### whole -/
set_option maxHeartbeats 4000000 in
theorem whole_any (w : World) (a b c d : Int) (ha : I32 a) (hb : I32 b) (hc : I32 c) (hd : I32 d) : Calls Try.prog 27 #[.agg #[.int .i32 a, .int .i32 b, .int .i32 c, .int .i32 d]] w fun e w' => e = .returned (.agg #[.complex .f64 (sm a) (sm b), .complex .f64 (sm c) (sm d)]) ∧ Fr [] w w' := by
  have M1 := Lib.hid (fun w => small_any w a ha)
  have M2 := Lib.hid (fun w => small_any w b hb)
  have M3 := Lib.hid (fun w => small_any w c hc)
  have M4 := Lib.hid (fun w => small_any w d hd)
  clear ha hb hc hd
  have hB0 := ((Blk.new_at (w := w) (k := w.heap.size + 0) (by simp) #[.int .i32 a, .int .i32 b, .int .i32 c, .int .i32 d] 56).alloc (.cells #[.complex .f64 0 0, .complex .f64 0 0] 28))
  have hB1 := (Blk.new_at (w := (World.alloc w (.cells #[.int .i32 a, .int .i32 b, .int .i32 c, .int .i32 d] 56))) (k := w.heap.size + 1) (by simp) #[.complex .f64 0 0, .complex .f64 0 0] 28)
  have f0 := (((Fr.refl [] w).alloc (.cells #[.int .i32 a, .int .i32 b, .int .i32 c, .int .i32 d] 56)).alloc (.cells #[.complex .f64 0 0, .complex .f64 0 0] 28))
  obtain ⟨z0, hz0⟩ : ∃ z, z = w.heap.size := ⟨_, rfl⟩
  rw [show w.heap.size + 0 = z0 by omega] at hB0
  rw [show w.heap.size + 1 = z0 + 1 by omega] at hB1
  have HZ := Lib.hid (show w.heap.size ≤ z0 from by omega)
  have HF := Lib.hid f0
  have HB0 := Lib.hid hB0
  have HB1 := Lib.hid hB1
  clear f0 hB0 hB1
  go_enter Try.func27, Try.ntmps27
  go_upto_region 1 with fail
  simp only [← hz0]
  clear hz0
  generalize (World.alloc (World.alloc w _) _) = w0v at *
  obtain ⟨w0, hw0⟩ : ∃ w0, w0 = w0v := ⟨_, rfl⟩
  rw [← hw0] at HB0
  rw [← hw0] at HB1
  rw [← hw0] at HF
  rw [← hw0]
  clear hw0
  have SS := Lib.hid (fun (W : World) (f : Fr [z0 + 1] w0 W) => show W.cell? ⟨z0, 0, none⟩ = some (.int .i32 a) ∧ W.cell? ⟨z0, 1, none⟩ = some (.int .i32 b) ∧ W.cell? ⟨z0, 2, none⟩ = some (.int .i32 c) ∧ W.cell? ⟨z0, 3, none⟩ = some (.int .i32 d) from ⟨(f.blk HB0.out (by simp <;> omega)).at 0 rfl, (f.blk HB0.out (by simp <;> omega)).at 1 rfl, (f.blk HB0.out (by simp <;> omega)).at 2 rfl, (f.blk HB0.out (by simp <;> omega)).at 3 rfl⟩)
  obtain ⟨o0, o1, o2, o3⟩ := SS.out _ (Fr.refl _ w0)
  have k0 := HB1.out.at 0 (v := .complex .f64 0 0) rfl
  have k1 := HB1.out.at 1 (v := .complex .f64 0 0) rfl
  have m0 := HB1.out.free 0
  have m1 := HB1.out.free 1
  go_region_held3 (fun w' => w'.cell? ⟨z0, 0, none⟩ = some (.int .i32 a) ∧ w'.cell? ⟨z0, 1, none⟩ = some (.int .i32 b) ∧ w'.cell? ⟨z0, 2, none⟩ = some (.int .i32 c) ∧ w'.cell? ⟨z0, 3, none⟩ = some (.int .i32 d)) (first | (refine SS.out _ ?_; repeat (first | exact Fr.refl _ _ | refine Fr.drew ?_ | refine Fr.drewN ?_ _ | refine Fr.setCell ?_ _ _ (.inl (by simp)))))
    (first
      | (go_at_call_of 28 (Value.int IntKind.i32 a); refine (M1.out _).mono ?_; rintro e w9 ⟨rfl, rfl⟩)
      | (go_at_call_of 28 (Value.int IntKind.i32 b); refine (M2.out _).mono ?_; rintro e w9 ⟨rfl, rfl⟩)
      | (go_at_call_of 28 (Value.int IntKind.i32 c); refine (M3.out _).mono ?_; rintro e w9 ⟨rfl, rfl⟩)
      | (go_at_call_of 28 (Value.int IntKind.i32 d); refine (M4.out _).mono ?_; rintro e w9 ⟨rfl, rfl⟩))
  all_goals
    simp only [Exit.then]
    go_wp2
    obtain ⟨q0, q1⟩ := lay2_cells HB1.out (by simp) (.complex .f64 (sm a) (sm b)) (.complex .f64 (sm c) (sm d))
    exact bodyPost_ret (ret_sim rfl rfl q0 q1) rfl ⟨rfl, (Fr.lay2 HF.out _ _ _ (.inr (by have := HZ.out; omega))).drew⟩
/-! ### quarters -/
/-- One of the four quarters: its words, and the numbers that they stand for. -/
def Quar (x y : Nat) (A B : Int) : Prop := (x = 4607182418800017408 ∧ y = 0 ∧ A = 1 ∧ B = 0) ∨ (x = 0 ∧ y = 4607182418800017408 ∧ A = 0 ∧ B = 1) ∨ (x = 13830554455654793216 ∧ y = 0 ∧ A = -1 ∧ B = 0) ∨ (x = 0 ∧ y = 13830554455654793216 ∧ A = 0 ∧ B = -1)
def QuarOut (w : World) (e : Ending) (w' : World) : Prop := ∃ x y A B, Quar x y A B ∧ e = .returned (.complex .f64 x y) ∧ w = w'
theorem quarter_any (w : World) (k : Int) : Calls Try.prog 29 #[.int .i64 k] w (QuarOut w) := by
  go_enter Try.func29, Try.ntmps29
  go_wp2
  all_goals
    go_ret
    first | exact ⟨_, _, 1, 0, .inl ⟨rfl, rfl, rfl, rfl⟩, rfl, rfl⟩ | exact ⟨_, _, 0, 1, .inr (.inl ⟨rfl, rfl, rfl, rfl⟩), rfl, rfl⟩ | exact ⟨_, _, -1, 0, .inr (.inr (.inl ⟨rfl, rfl, rfl, rfl⟩)), rfl, rfl⟩ | exact ⟨_, _, 0, -1, .inr (.inr (.inr ⟨rfl, rfl, rfl, rfl⟩)), rfl, rfl⟩
end Go.Proofs.Ytkbcdfniocmamaa
