/-
  Place of package turn, by contract.
-/
import Derived.Test.YtkbcdfniocmamaaMapJ
namespace Go.Proofs.Ytkbcdfniocmamaa
open Go.RowKit Flo
set_option linter.unusedVariables false

theorem place_any (w : World) (a b c d : Nat) (m n : Int) (hm : -2147483648 ≤ m ∧ m ≤ 2147483647) (hn : -2147483648 ≤ n ∧ n ≤ 2147483647) (zz : Nat) : Calls Try.prog 30 #[.agg #[.complex .f64 a b, .complex .f64 c d], .agg #[.int .i32 m, .int .i32 n]] w (PlaceOut a b c d m n w) := by
  have hB0 := (((Blk.new_at (w := w) (k := w.heap.size + 0) (by simp) #[.complex .f64 a b, .complex .f64 c d] 28).alloc (.cells #[.int .i32 m, .int .i32 n] 64)).alloc (.cells #[.int .i32 0, .int .i32 0] 64))
  have hB1 := ((Blk.new_at (w := (World.alloc w (.cells #[.complex .f64 a b, .complex .f64 c d] 28))) (k := w.heap.size + 1) (by simp) #[.int .i32 m, .int .i32 n] 64).alloc (.cells #[.int .i32 0, .int .i32 0] 64))
  have hB2 := (Blk.new_at (w := (World.alloc (World.alloc w (.cells #[.complex .f64 a b, .complex .f64 c d] 28)) (.cells #[.int .i32 m, .int .i32 n] 64))) (k := w.heap.size + 2) (by simp) #[.int .i32 0, .int .i32 0] 64)
  have f0 := ((((Fr.refl [] w).alloc (.cells #[.complex .f64 a b, .complex .f64 c d] 28)).alloc (.cells #[.int .i32 m, .int .i32 n] 64)).alloc (.cells #[.int .i32 0, .int .i32 0] 64))
  obtain ⟨z0, hz0⟩ : ∃ z, z = w.heap.size := ⟨_, rfl⟩
  rw [show w.heap.size + 0 = z0 by omega] at hB0
  rw [show w.heap.size + 1 = z0 + 1 by omega] at hB1
  rw [show w.heap.size + 2 = z0 + 1 + 1 by omega] at hB2
  have HZ := Lib.hid (show w.heap.size ≤ z0 from by omega)
  have HF := Lib.hid f0
  have HB0 := Lib.hid hB0
  have HB1 := Lib.hid hB1
  have HB2 := Lib.hid hB2
  clear f0 hB0 hB1 hB2
  go_enter Try.func30, Try.ntmps30
  go_wp2_with fail
  simp only [← hz0]
  clear hz0
  generalize (World.alloc (World.alloc (World.alloc w _) _) _) = w0v at *
  obtain ⟨w0, hw0⟩ : ∃ w0, w0 = w0v := ⟨_, rfl⟩
  rw [← hw0] at HB0
  rw [← hw0] at HB1
  rw [← hw0] at HB2
  rw [← hw0] at HF
  rw [← hw0]
  clear hw0
  have SS := Lib.hid (fun (W : World) (f : Fr [z0 + 1 + 1] w0 W) => show W.cell? ⟨z0, 0, none⟩ = some (.complex .f64 a b) ∧ W.cell? ⟨z0, 1, none⟩ = some (.complex .f64 c d) ∧ W.cell? ⟨z0 + 1, 0, none⟩ = some (.int .i32 m) ∧ W.cell? ⟨z0 + 1, 1, none⟩ = some (.int .i32 n) from ⟨(f.blk HB0.out (by simp <;> omega)).at 0 rfl, (f.blk HB0.out (by simp <;> omega)).at 1 rfl, (f.blk HB1.out (by simp <;> omega)).at 0 rfl, (f.blk HB1.out (by simp <;> omega)).at 1 rfl⟩)
  obtain ⟨c0, c1, c2, c3⟩ := SS.out _ (Fr.refl _ w0)
  go_region_held3 (fun w' => w'.cell? ⟨z0, 0, none⟩ = some (.complex .f64 a b) ∧ w'.cell? ⟨z0, 1, none⟩ = some (.complex .f64 c d) ∧ w'.cell? ⟨z0 + 1, 0, none⟩ = some (.int .i32 m) ∧ w'.cell? ⟨z0 + 1, 1, none⟩ = some (.int .i32 n)) (first | (refine SS.out _ ?_; repeat (first | exact F3 | exact F2 | exact F1 | exact Fr.refl _ _ | refine Fr.drew ?_ | refine Fr.drewN ?_ _ | refine Fr.alloc ?_ _ | refine Fr.setCell ?_ _ _ (.inl (by simp)))))
    (first
      | (go_at_call 59; refine (ptAt_any _ _ _ hm hn).mono ?_; rintro e w1 ⟨rfl, f1⟩; have G1 : Fr [] w0 w1 := (by refine Fr.trans ?_ f1 (by simp); repeat (first | exact G2 | exact G1 | exact Fr.refl _ _ | refine Fr.drew ?_ | refine Fr.drewN ?_ _)); have F1 : Fr [z0 + 1 + 1] w0 w1 := G1.mono (by simp); clear f1)
      | (go_at_call 13; refine (apply_any _ _ _ _ _ _ _).mono ?_; rintro e w2 ⟨r, i, rfl, h2, f2⟩; have G2 : Fr [] w0 w2 := (by refine Fr.trans ?_ f2 (by simp); repeat (first | exact G2 | exact G1 | exact Fr.refl _ _ | refine Fr.drew ?_ | refine Fr.drewN ?_ _)); have F2 : Fr [z0 + 1 + 1] w0 w2 := G2.mono (by simp); have H2 := Lib.hid h2; clear h2 f2))
  simp only [Exit.then]
  have E1 := Lib.hid (fun w => show Calls Try.prog 60 #[.float .f64 r] w (NearOut r w) from near_any w r)
  have E2 := Lib.hid (fun w => show Calls Try.prog 60 #[.float .f64 i] w (NearOut i w) from near_any w i)
  have PE := Lib.hid (show placeE r i = (if nearE r = 0 then nearE i else nearE r) ∧ placeX r i = (if placeE r i = 0 then nearV r else 0) ∧ placeY r i = (if placeE r i = 0 then nearV i else 0) from ⟨rfl, rfl, rfl⟩)
  unfold NearOut at E1 E2
  generalize nearE r = er at *
  generalize nearE i = ei at *
  by_cases h1 : er = 0
  · subst h1
    by_cases h2 : ei = 0
    · subst h2
      go_wp2_with (first
        | (go_at_call 56; refine (re_any _ _ _).mono ?_; rintro e w9 ⟨rfl, rfl⟩)
        | (go_at_call_of 60 (Value.float FloatKind.f64 r); refine (E1.out _).mono ?_; rintro e w3 ⟨rfl, f3⟩; have N3 := Lib.hid f3; clear f3)
        | (go_at_call_of 60 (Value.float FloatKind.f64 i); refine (E2.out _).mono ?_; rintro e w4 ⟨rfl, f4⟩; have N4 := Lib.hid (N3.out.trans f4 (by simp)); clear f4; have hb := (G2.trans N4.out (by simp)).blk HB2.out (by simp); have k0 := hb.at 0 (v := .int .i32 0) rfl; have k1 := hb.at 1 (v := .int .i32 0) rfl; have m0 := hb.free 0; have m1 := hb.free 1; clear hb))
      obtain ⟨q0, q1⟩ := lay2_cells ((G2.trans N4.out (by simp)).blk HB2.out (by simp)) (by simp) (.int .i32 (nearV r)) (.int .i32 (nearV i))
      refine bodyPost_ret (ret_pt2 rfl rfl rfl q0 q1) rfl ⟨_, _, H2.out, ?_, Fr.lay2 (HF.out.trans (G2.trans N4.out (by simp)) (by simp)) _ _ _ (.inr (by have := HZ.out; omega))⟩
      rw [PE.out.2.1, PE.out.2.2, PE.out.1]
      rfl
    · go_wp2_with (first
        | (go_at_call 56; refine (re_any _ _ _).mono ?_; rintro e w9 ⟨rfl, rfl⟩)
        | (go_at_call_of 60 (Value.float FloatKind.f64 r); refine (E1.out _).mono ?_; rintro e w3 ⟨rfl, f3⟩; have N3 := Lib.hid f3; clear f3)
        | (go_at_call_of 60 (Value.float FloatKind.f64 i); refine (E2.out _).mono ?_; rintro e w4 ⟨rfl, f4⟩; have N4 := Lib.hid (N3.out.trans f4 (by simp)); clear f4; have hb := (G2.trans N4.out (by simp)).blk HB2.out (by simp); have k0 := hb.at 0 (v := .int .i32 0) rfl; have k1 := hb.at 1 (v := .int .i32 0) rfl; have m0 := hb.free 0; have m1 := hb.free 1; clear hb))
      obtain ⟨q0, q1⟩ := lay2_cells ((G2.trans N4.out (by simp)).blk HB2.out (by simp)) (by simp) (.int .i32 0) (.int .i32 0)
      refine bodyPost_ret (ret_pt2 rfl rfl rfl q0 q1) rfl ⟨_, _, H2.out, ?_, Fr.lay2 (HF.out.trans (G2.trans N4.out (by simp)) (by simp)) _ _ _ (.inr (by have := HZ.out; omega))⟩
      rw [PE.out.2.1, PE.out.2.2, PE.out.1, if_pos trivial, if_neg h2, if_neg h2]
      rfl
  · go_wp2_with (first
        | (go_at_call 56; refine (re_any _ _ _).mono ?_; rintro e w9 ⟨rfl, rfl⟩)
        | (go_at_call_of 60 (Value.float FloatKind.f64 r); refine (E1.out _).mono ?_; rintro e w3 ⟨rfl, f3⟩; have N3 := Lib.hid f3; clear f3; have hb := (G2.trans N3.out (by simp)).blk HB2.out (by simp); have k0 := hb.at 0 (v := .int .i32 0) rfl; have k1 := hb.at 1 (v := .int .i32 0) rfl; have m0 := hb.free 0; have m1 := hb.free 1; clear hb))
    obtain ⟨q0, q1⟩ := lay2_cells ((G2.trans N3.out (by simp)).blk HB2.out (by simp)) (by simp) (.int .i32 0) (.int .i32 0)
    refine bodyPost_ret (ret_pt2 rfl rfl rfl q0 q1) rfl ⟨_, _, H2.out, ?_, Fr.lay2 (HF.out.trans (G2.trans N3.out (by simp)) (by simp)) _ _ _ (.inr (by have := HZ.out; omega))⟩
    rw [PE.out.2.1, PE.out.2.2, PE.out.1, if_neg h1, if_neg h1, if_neg h1]
    rfl
end Go.Proofs.Ytkbcdfniocmamaa
