/-
  Place of the document, by contract.
-/
import Derived.Test.YtkbcdfniocmamaaMapQ
import Derived.Test.YtkbcdfniocmamaaMapK
import Derived.Test.YtkbcdfniocmamaaMapR
namespace Go.Proofs.Ytkbcdfniocmamaa
open Go.RowKit Flo
set_option linter.unusedVariables false

theorem refPlace_any (w : World) (a b c d : Nat) (m n : Int) (hm : -2147483648 ≤ m ∧ m ≤ 2147483647) (hn : -2147483648 ≤ n ∧ n ≤ 2147483647) : Calls Try.prog 37 #[.agg #[.float .f64 a, .float .f64 b, .float .f64 c, .float .f64 d], .agg #[.int .i32 m, .int .i32 n]] w (PlaceOut a b c d m n w) := by
  have hB0 := (((Blk.new_at (w := w) (k := w.heap.size + 0) (by simp) #[.float .f64 a, .float .f64 b, .float .f64 c, .float .f64 d] 35).alloc (.cells #[.int .i32 m, .int .i32 n] 64)).alloc (.cells #[.int .i32 0, .int .i32 0] 64))
  have hB1 := ((Blk.new_at (w := (World.alloc w (.cells #[.float .f64 a, .float .f64 b, .float .f64 c, .float .f64 d] 35))) (k := w.heap.size + 1) (by simp) #[.int .i32 m, .int .i32 n] 64).alloc (.cells #[.int .i32 0, .int .i32 0] 64))
  have hB2 := (Blk.new_at (w := (World.alloc (World.alloc w (.cells #[.float .f64 a, .float .f64 b, .float .f64 c, .float .f64 d] 35)) (.cells #[.int .i32 m, .int .i32 n] 64))) (k := w.heap.size + 2) (by simp) #[.int .i32 0, .int .i32 0] 64)
  have f0 := ((((Fr.refl [] w).alloc (.cells #[.float .f64 a, .float .f64 b, .float .f64 c, .float .f64 d] 35)).alloc (.cells #[.int .i32 m, .int .i32 n] 64)).alloc (.cells #[.int .i32 0, .int .i32 0] 64))
  obtain ⟨z0, hz0⟩ : ∃ z, z = w.heap.size := ⟨_, rfl⟩
  rw [show w.heap.size + 0 = z0 by omega] at hB0
  rw [show w.heap.size + 1 = z0 + 1 by omega] at hB1
  rw [show w.heap.size + 2 = z0 + 1 + 1 by omega] at hB2
  have HZ := Lib.hid (show w.heap.size ≤ z0 from by omega)
  have HF := Lib.hid f0
  have HB0 := Lib.hid hB0
  have HB1 := Lib.hid hB1
  have HB2 := Lib.hid hB2
  clear f0 hB0 hB1 hB2
  go_enter Try.func37, Try.ntmps37
  go_upto_region 1 with fail
  simp only [← hz0]
  clear hz0
  generalize (World.alloc (World.alloc (World.alloc w _) _) _) = w0v at *
  obtain ⟨w0, hw0⟩ : ∃ w0, w0 = w0v := ⟨_, rfl⟩
  rw [← hw0] at HB0
  rw [← hw0] at HB1
  rw [← hw0] at HB2
  rw [← hw0] at HF
  rw [← hw0]
  clear hw0
  have o0 : w0.cell? ⟨z0, 0, none⟩ = some (.float .f64 a) := ((Fr.refl [] w0).blk HB0.out (by simp <;> omega)).at 0 rfl
  have o1 : w0.cell? ⟨z0, 1, none⟩ = some (.float .f64 b) := ((Fr.refl [] w0).blk HB0.out (by simp <;> omega)).at 1 rfl
  have o2 : w0.cell? ⟨z0, 2, none⟩ = some (.float .f64 c) := ((Fr.refl [] w0).blk HB0.out (by simp <;> omega)).at 2 rfl
  have o3 : w0.cell? ⟨z0, 3, none⟩ = some (.float .f64 d) := ((Fr.refl [] w0).blk HB0.out (by simp <;> omega)).at 3 rfl
  have o4 : w0.cell? ⟨z0 + 1, 0, none⟩ = some (.int .i32 m) := ((Fr.refl [] w0).blk HB1.out (by simp <;> omega)).at 0 rfl
  have o5 : w0.cell? ⟨z0 + 1, 1, none⟩ = some (.int .i32 n) := ((Fr.refl [] w0).blk HB1.out (by simp <;> omega)).at 1 rfl
  have e1 := wrap_i32 hm
  have e2 := wrap_i32 hn
  clear hm hn
  go_wp2_with fail
  (with_reducible refine (refApply_any _ _ _ _ _ _ _).mono ?_)
  rintro e w1 ⟨r, i, rfl, h1, f1⟩
  have H1 := Lib.hid h1
  have hc := (Blk.new w1 #[.float .f64 r, .float .f64 i] 33)
  have G1 := Lib.hid (f1.alloc (.cells #[.float .f64 r, .float .f64 i] 33))
  have hq := (f1.blk HB2.out (by simp)).alloc (.cells #[.float .f64 r, .float .f64 i] 33)
  have HC := Lib.hid hc
  have HQ := Lib.hid hq
  clear h1 f1 hc hq o0 o1 o2 o3 o4 o5 e1 e2
  have E1 := Lib.hid (fun w => show Calls Try.prog 67 #[.float .f64 r] w (NearOut r w) from refNear_any w r)
  have E2 := Lib.hid (fun w => show Calls Try.prog 67 #[.float .f64 i] w (NearOut i w) from refNear_any w i)
  have PE := Lib.hid (show placeE r i = (if nearE r = 0 then nearE i else nearE r) ∧ placeX r i = (if placeE r i = 0 then nearV r else 0) ∧ placeY r i = (if placeE r i = 0 then nearV i else 0) from ⟨rfl, rfl, rfl⟩)
  unfold NearOut at E1 E2
  generalize nearE r = er at *
  generalize nearE i = ei at *
  go_upto_region 2 with fail
  obtain ⟨z6, hz6⟩ : ∃ z, z = w1.heap.size := ⟨_, rfl⟩
  rw [← hz6] at HC
  simp only [← hz6]
  clear hz6
  generalize World.alloc w1 _ = w2v at *
  obtain ⟨w2, hw2⟩ : ∃ w2, w2 = w2v := ⟨_, rfl⟩
  rw [← hw2] at HC HQ G1
  rw [← hw2]
  clear hw2
  have c0 := HC.out.at 0 (v := .float .f64 r) rfl
  have c1 := HC.out.at 1 (v := .float .f64 i) rfl
  by_cases h1 : er = 0
  · subst h1
    by_cases h2 : ei = 0
    · subst h2
      go_wp2_with fail
      (with_reducible refine (E1.out _).mono ?_)
      rintro e w3 ⟨rfl, f3⟩
      have N3 := Lib.hid f3
      have c1 := (f3.blk HC.out (by simp)).at 1 (v := .float .f64 i) rfl
      clear f3
      go_wp2_with fail
      (with_reducible refine (E2.out _).mono ?_)
      rintro e w4 ⟨rfl, f4⟩
      have N4 := Lib.hid (N3.out.trans f4 (by simp))
      clear f4
      have hb := N4.out.blk HQ.out (by simp)
      have k0 := hb.at 0 (v := .int .i32 0) rfl
      have k1 := hb.at 1 (v := .int .i32 0) rfl
      have m0 := hb.free 0
      have m1 := hb.free 1
      clear hb
      go_wp2_with fail
      obtain ⟨q0, q1⟩ := lay2_cells (N4.out.blk HQ.out (by simp)) (by simp) (.int .i32 (nearV r)) (.int .i32 (nearV i))
      refine bodyPost_ret (ret_pt2 rfl rfl rfl q0 q1) rfl ⟨_, _, H1.out, ?_, Fr.lay2 ((HF.out.trans G1.out (by simp)).trans N4.out (by simp)) _ _ _ (.inr (by have := HZ.out; omega))⟩
      rw [PE.out.2.1, PE.out.2.2, PE.out.1]
      rfl
    · go_wp2_with fail
      (with_reducible refine (E1.out _).mono ?_)
      rintro e w3 ⟨rfl, f3⟩
      have N3 := Lib.hid f3
      have c1 := (f3.blk HC.out (by simp)).at 1 (v := .float .f64 i) rfl
      clear f3
      go_wp2_with fail
      (with_reducible refine (E2.out _).mono ?_)
      rintro e w4 ⟨rfl, f4⟩
      have N4 := Lib.hid (N3.out.trans f4 (by simp))
      clear f4
      have hb := N4.out.blk HQ.out (by simp)
      have k0 := hb.at 0 (v := .int .i32 0) rfl
      have k1 := hb.at 1 (v := .int .i32 0) rfl
      have m0 := hb.free 0
      have m1 := hb.free 1
      clear hb
      go_wp2_with fail
      obtain ⟨q0, q1⟩ := lay2_cells (N4.out.blk HQ.out (by simp)) (by simp) (.int .i32 0) (.int .i32 0)
      refine bodyPost_ret (ret_pt2 rfl rfl rfl q0 q1) rfl ⟨_, _, H1.out, ?_, Fr.lay2 ((HF.out.trans G1.out (by simp)).trans N4.out (by simp)) _ _ _ (.inr (by have := HZ.out; omega))⟩
      rw [PE.out.2.1, PE.out.2.2, PE.out.1, if_pos trivial, if_neg h2, if_neg h2]
      rfl
  · go_wp2_with fail
    (with_reducible refine (E1.out _).mono ?_)
    rintro e w4 ⟨rfl, f4⟩
    have N4 := Lib.hid f4
    clear f4
    have hb := N4.out.blk HQ.out (by simp)
    have k0 := hb.at 0 (v := .int .i32 0) rfl
    have k1 := hb.at 1 (v := .int .i32 0) rfl
    have m0 := hb.free 0
    have m1 := hb.free 1
    clear hb
    go_wp2_with fail
    obtain ⟨q0, q1⟩ := lay2_cells (N4.out.blk HQ.out (by simp)) (by simp) (.int .i32 0) (.int .i32 0)
    refine bodyPost_ret (ret_pt2 rfl rfl rfl q0 q1) rfl ⟨_, _, H1.out, ?_, Fr.lay2 ((HF.out.trans G1.out (by simp)).trans N4.out (by simp)) _ _ _ (.inr (by have := HZ.out; omega))⟩
    rw [PE.out.2.1, PE.out.2.2, PE.out.1, if_neg h1, if_neg h1, if_neg h1]
    rfl
end Go.Proofs.Ytkbcdfniocmamaa
