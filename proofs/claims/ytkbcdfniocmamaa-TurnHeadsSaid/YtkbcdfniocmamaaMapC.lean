/-
  alike, alikeMap, numMap, similar, Same, by contracts.
-/
import Derived.Test.YtkbcdfniocmamaaMapB
namespace Go.Proofs.Ytkbcdfniocmamaa
open Go.RowKit Flo
set_option linter.unusedVariables false

theorem lawAlike_any (w : World) (a b c d : Nat) : Calls Try.prog 12 #[.complex .f64 a b, .agg #[.float .f64 c, .float .f64 d]] w (fun e w' => e = .returned (.bool (alikeB a c && alikeB b d)) ∧ Fr [] w w') := by
  have hB0 := (Blk.new_at (w := w) (k := w.heap.size + 0) (by simp) #[.float .f64 c, .float .f64 d] 33)
  have f0 := ((Fr.refl [] w).alloc (.cells #[.float .f64 c, .float .f64 d] 33))
  obtain ⟨z0, hz0⟩ : ∃ z, z = w.heap.size := ⟨_, rfl⟩
  rw [show w.heap.size + 0 = z0 by omega] at hB0
  have HZ := Lib.hid (show w.heap.size ≤ z0 from by omega)
  have HF := Lib.hid f0
  have HB0 := Lib.hid hB0
  clear f0 hB0
  go_enter Try.func12, Try.ntmps12
  go_wp2_with fail
  simp only [← hz0]
  clear hz0
  generalize (World.alloc w _) = w0v at *
  obtain ⟨w0, hw0⟩ : ∃ w0, w0 = w0v := ⟨_, rfl⟩
  rw [← hw0] at HB0
  rw [← hw0] at HF
  rw [← hw0]
  clear hw0
  have SS := Lib.hid (fun (W : World) (f : Fr [] w0 W) => show W.cell? ⟨z0, 0, none⟩ = some (.float .f64 c) ∧ W.cell? ⟨z0, 1, none⟩ = some (.float .f64 d) from ⟨(f.blk HB0.out (by simp <;> omega)).at 0 rfl, (f.blk HB0.out (by simp <;> omega)).at 1 rfl⟩)
  obtain ⟨c0, c1⟩ := SS.out _ (Fr.refl _ w0)
  go_region_held3 (fun w' => w'.cell? ⟨z0, 0, none⟩ = some (.float .f64 c) ∧ w'.cell? ⟨z0, 1, none⟩ = some (.float .f64 d)) (first | (refine SS.out _ ?_; repeat (first | exact F3 | exact F2 | exact F1 | exact Fr.refl _ _ | refine Fr.drew ?_ | refine Fr.drewN ?_ _ | refine Fr.alloc ?_ _ | refine Fr.setCell ?_ _ _ (.inl (by simp)))))
    (first
      | (go_at_call 15; refine (num_any _ _ _).mono ?_; rintro e w1 ⟨rfl, f1⟩; have G1 : Fr [] w0 w1 := (by refine Fr.trans ?_ f1 (by simp); repeat (first | exact G2 | exact G1 | exact Fr.refl _ _ | refine Fr.drew ?_ | refine Fr.drewN ?_ _)); have F1 : Fr [] w0 w1 := G1.mono (by simp); clear f1)
      | (go_at_call 40; refine (alikeNum_any _ _ _ _ _).mono ?_; rintro e w2 ⟨rfl, f2⟩; have G2 : Fr [] w0 w2 := (by refine Fr.trans ?_ f2 (by simp); repeat (first | exact G2 | exact G1 | exact Fr.refl _ _ | refine Fr.drew ?_ | refine Fr.drewN ?_ _)); have F2 : Fr [] w0 w2 := G2.mono (by simp); clear f2))
  simp only [Exit.then]
  go_wp2
  go_ret
  exact ⟨rfl, HF.out.trans G2 (by simp)⟩
theorem numMap_any (w : World) (a b c d : Nat) : Calls Try.prog 11 #[.agg #[.complex .f64 a b, .complex .f64 c d]] w (fun e w' => e = .returned (.agg #[.float .f64 a, .float .f64 b, .float .f64 c, .float .f64 d]) ∧ Fr [] w w') := by
  have hB0 := ((Blk.new_at (w := w) (k := w.heap.size + 0) (by simp) #[.complex .f64 a b, .complex .f64 c d] 28).alloc (.cells #[.float .f64 0, .float .f64 0, .float .f64 0, .float .f64 0] 35))
  have hB1 := (Blk.new_at (w := (World.alloc w (.cells #[.complex .f64 a b, .complex .f64 c d] 28))) (k := w.heap.size + 1) (by simp) #[.float .f64 0, .float .f64 0, .float .f64 0, .float .f64 0] 35)
  have f0 := (((Fr.refl [] w).alloc (.cells #[.complex .f64 a b, .complex .f64 c d] 28)).alloc (.cells #[.float .f64 0, .float .f64 0, .float .f64 0, .float .f64 0] 35))
  obtain ⟨z0, hz0⟩ : ∃ z, z = w.heap.size := ⟨_, rfl⟩
  rw [show w.heap.size + 0 = z0 by omega] at hB0
  rw [show w.heap.size + 1 = z0 + 1 by omega] at hB1
  have HZ := Lib.hid (show w.heap.size ≤ z0 from by omega)
  have HF := Lib.hid f0
  have HB0 := Lib.hid hB0
  have HB1 := Lib.hid hB1
  clear f0 hB0 hB1
  go_enter Try.func11, Try.ntmps11
  go_wp2_with fail
  simp only [← hz0]
  clear hz0
  generalize (World.alloc (World.alloc w _) _) = w0v at *
  obtain ⟨w0, hw0⟩ : ∃ w0, w0 = w0v := ⟨_, rfl⟩
  rw [← hw0] at HB0
  rw [← hw0] at HB1
  rw [← hw0] at HF
  rw [← hw0]
  clear hw0
  have SS := Lib.hid (fun (W : World) (f : Fr [z0 + 1] w0 W) => show W.cell? ⟨z0, 0, none⟩ = some (.complex .f64 a b) ∧ W.cell? ⟨z0, 1, none⟩ = some (.complex .f64 c d) from ⟨(f.blk HB0.out (by simp <;> omega)).at 0 rfl, (f.blk HB0.out (by simp <;> omega)).at 1 rfl⟩)
  obtain ⟨c0, c1⟩ := SS.out _ (Fr.refl _ w0)
  go_region_held3 (fun w' => w'.cell? ⟨z0, 0, none⟩ = some (.complex .f64 a b) ∧ w'.cell? ⟨z0, 1, none⟩ = some (.complex .f64 c d)) (first | (refine SS.out _ ?_; repeat (first | exact F3 | exact F2 | exact F1 | exact Fr.refl _ _ | refine Fr.drew ?_ | refine Fr.drewN ?_ _ | refine Fr.alloc ?_ _ | refine Fr.setCell ?_ _ _ (.inl (by simp)))))
    (first
      | (go_at_call 15; have _ := G1; refine (num_any _ _ _).mono ?_; rintro e w2 ⟨rfl, f2⟩; have G2 : Fr [] w0 w2 := (by refine Fr.trans ?_ f2 (by simp); repeat (first | exact G2 | exact G1 | exact Fr.refl _ _ | refine Fr.drew ?_ | refine Fr.drewN ?_ _)); have F2 : Fr [z0 + 1] w0 w2 := G2.mono (by simp); clear f2; have hb := G2.blk HB1.out (by simp); have k0 := hb.at 0 (v := .float .f64 0) rfl; have m0 := hb.free 0; have k1 := hb.at 1 (v := .float .f64 0) rfl; have m1 := hb.free 1; have k2 := hb.at 2 (v := .float .f64 0) rfl; have m2 := hb.free 2; have k3 := hb.at 3 (v := .float .f64 0) rfl; have m3 := hb.free 3; have HK := Lib.hid hb; clear hb)
      | (go_at_call 15; refine (num_any _ _ _).mono ?_; rintro e w1 ⟨rfl, f1⟩; have G1 : Fr [] w0 w1 := (by refine Fr.trans ?_ f1 (by simp); repeat (first | exact G2 | exact G1 | exact Fr.refl _ _ | refine Fr.drew ?_ | refine Fr.drewN ?_ _)); have F1 : Fr [z0 + 1] w0 w1 := G1.mono (by simp); clear f1))
  simp only [Exit.then]
  go_wp2
  obtain ⟨h0, h1, h2, h3⟩ := lay4_cells HK.out (by simp) (.float .f64 a) (.float .f64 b) (.float .f64 c) (.float .f64 d)
  exact bodyPost_ret (ret_map rfl rfl h0 h1 h2 h3) rfl ⟨rfl, Fr.lay4 (HF.out.trans G2 (by simp)) _ _ _ _ _ (.inr (by have := HZ.out; omega))⟩
theorem alikeMap_any (w : World) (a b c d a' b' c' d' : Nat) : Calls Try.prog 16 #[.agg #[.complex .f64 a b, .complex .f64 c d], .agg #[.float .f64 a', .float .f64 b', .float .f64 c', .float .f64 d']] w (fun e w' => e = .returned (.bool (mapB a b c d a' b' c' d')) ∧ Fr [] w w') := by
  have hB0 := ((Blk.new_at (w := w) (k := w.heap.size + 0) (by simp) #[.complex .f64 a b, .complex .f64 c d] 28).alloc (.cells #[.float .f64 a', .float .f64 b', .float .f64 c', .float .f64 d'] 35))
  have hB1 := (Blk.new_at (w := (World.alloc w (.cells #[.complex .f64 a b, .complex .f64 c d] 28))) (k := w.heap.size + 1) (by simp) #[.float .f64 a', .float .f64 b', .float .f64 c', .float .f64 d'] 35)
  have f0 := (((Fr.refl [] w).alloc (.cells #[.complex .f64 a b, .complex .f64 c d] 28)).alloc (.cells #[.float .f64 a', .float .f64 b', .float .f64 c', .float .f64 d'] 35))
  obtain ⟨z0, hz0⟩ : ∃ z, z = w.heap.size := ⟨_, rfl⟩
  rw [show w.heap.size + 0 = z0 by omega] at hB0
  rw [show w.heap.size + 1 = z0 + 1 by omega] at hB1
  have HZ := Lib.hid (show w.heap.size ≤ z0 from by omega)
  have HF := Lib.hid f0
  have HB0 := Lib.hid hB0
  have HB1 := Lib.hid hB1
  clear f0 hB0 hB1
  go_enter Try.func16, Try.ntmps16
  go_wp2_with fail
  simp only [← hz0]
  clear hz0
  generalize (World.alloc (World.alloc w _) _) = w0v at *
  obtain ⟨w0, hw0⟩ : ∃ w0, w0 = w0v := ⟨_, rfl⟩
  rw [← hw0] at HB0
  rw [← hw0] at HB1
  rw [← hw0] at HF
  rw [← hw0]
  clear hw0
  have SS := Lib.hid (fun (W : World) (f : Fr [] w0 W) => show W.cell? ⟨z0, 0, none⟩ = some (.complex .f64 a b) ∧ W.cell? ⟨z0, 1, none⟩ = some (.complex .f64 c d) ∧ W.cell? ⟨z0 + 1, 0, none⟩ = some (.float .f64 a') ∧ W.cell? ⟨z0 + 1, 1, none⟩ = some (.float .f64 b') ∧ W.cell? ⟨z0 + 1, 2, none⟩ = some (.float .f64 c') ∧ W.cell? ⟨z0 + 1, 3, none⟩ = some (.float .f64 d') from ⟨(f.blk HB0.out (by simp <;> omega)).at 0 rfl, (f.blk HB0.out (by simp <;> omega)).at 1 rfl, (f.blk HB1.out (by simp <;> omega)).at 0 rfl, (f.blk HB1.out (by simp <;> omega)).at 1 rfl, (f.blk HB1.out (by simp <;> omega)).at 2 rfl, (f.blk HB1.out (by simp <;> omega)).at 3 rfl⟩)
  obtain ⟨c0, c1, c2, c3, c4, c5⟩ := SS.out _ (Fr.refl _ w0)
  go_region_held3 (fun w' => w'.cell? ⟨z0, 0, none⟩ = some (.complex .f64 a b) ∧ w'.cell? ⟨z0, 1, none⟩ = some (.complex .f64 c d) ∧ w'.cell? ⟨z0 + 1, 0, none⟩ = some (.float .f64 a') ∧ w'.cell? ⟨z0 + 1, 1, none⟩ = some (.float .f64 b') ∧ w'.cell? ⟨z0 + 1, 2, none⟩ = some (.float .f64 c') ∧ w'.cell? ⟨z0 + 1, 3, none⟩ = some (.float .f64 d')) (first | (refine SS.out _ ?_; repeat (first | exact F3 | exact F2 | exact F1 | exact Fr.refl _ _ | refine Fr.drew ?_ | refine Fr.drewN ?_ _ | refine Fr.alloc ?_ _ | refine Fr.setCell ?_ _ _ (.inl (by simp)))))
    (first
      | (go_at_call 11; refine (numMap_any _ _ _ _ _).mono ?_; rintro e w1 ⟨rfl, f1⟩; have G1 : Fr [] w0 w1 := (by refine Fr.trans ?_ f1 (by simp); repeat (first | exact G2 | exact G1 | exact Fr.refl _ _ | refine Fr.drew ?_ | refine Fr.drewN ?_ _)); have F1 : Fr [] w0 w1 := G1.mono (by simp); clear f1)
      | (go_at_call 23; refine (alikeMapR_any _ _ _ _ _ _ _ _ _).mono ?_; rintro e w2 ⟨rfl, f2⟩; have G2 : Fr [] w0 w2 := (by refine Fr.trans ?_ f2 (by simp); repeat (first | exact G2 | exact G1 | exact Fr.refl _ _ | refine Fr.drew ?_ | refine Fr.drewN ?_ _)); have F2 : Fr [] w0 w2 := G2.mono (by simp); clear f2))
  simp only [Exit.then]
  go_wp2
  go_ret
  exact ⟨rfl, HF.out.trans G2 (by simp)⟩
theorem of_fr (w : World) (a b : Nat) : Calls Try.prog 10 #[.int .u64 a, .int .u64 b] w fun e w' => e = .returned (.complex .f64 a b) ∧ Fr [] w w' := (of_any w a b).mono fun _ _ h => ⟨h.1, h.2 ▸ Fr.refl [] w⟩
theorem similar_any (w : World) (a b c d : Nat) : Calls Try.prog 9 #[.agg #[.int .u64 a, .int .u64 b, .int .u64 c, .int .u64 d]] w (fun e w' => e = .returned (.agg #[.complex .f64 a b, .complex .f64 c d]) ∧ Fr [] w w') := by
  have hB0 := ((Blk.new_at (w := w) (k := w.heap.size + 0) (by simp) #[.int .u64 a, .int .u64 b, .int .u64 c, .int .u64 d] 24).alloc (.cells #[.complex .f64 0 0, .complex .f64 0 0] 28))
  have hB1 := (Blk.new_at (w := (World.alloc w (.cells #[.int .u64 a, .int .u64 b, .int .u64 c, .int .u64 d] 24))) (k := w.heap.size + 1) (by simp) #[.complex .f64 0 0, .complex .f64 0 0] 28)
  have f0 := (((Fr.refl [] w).alloc (.cells #[.int .u64 a, .int .u64 b, .int .u64 c, .int .u64 d] 24)).alloc (.cells #[.complex .f64 0 0, .complex .f64 0 0] 28))
  obtain ⟨z0, hz0⟩ : ∃ z, z = w.heap.size := ⟨_, rfl⟩
  rw [show w.heap.size + 0 = z0 by omega] at hB0
  rw [show w.heap.size + 1 = z0 + 1 by omega] at hB1
  have HZ := Lib.hid (show w.heap.size ≤ z0 from by omega)
  have HF := Lib.hid f0
  have HB0 := Lib.hid hB0
  have HB1 := Lib.hid hB1
  clear f0 hB0 hB1
  go_enter Try.func9, Try.ntmps9
  go_wp2_with fail
  simp only [← hz0]
  clear hz0
  generalize (World.alloc (World.alloc w _) _) = w0v at *
  obtain ⟨w0, hw0⟩ : ∃ w0, w0 = w0v := ⟨_, rfl⟩
  rw [← hw0] at HB0
  rw [← hw0] at HB1
  rw [← hw0] at HF
  rw [← hw0]
  clear hw0
  have SS := Lib.hid (fun (W : World) (f : Fr [z0 + 1] w0 W) => show W.cell? ⟨z0, 0, none⟩ = some (.int .u64 a) ∧ W.cell? ⟨z0, 1, none⟩ = some (.int .u64 b) ∧ W.cell? ⟨z0, 2, none⟩ = some (.int .u64 c) ∧ W.cell? ⟨z0, 3, none⟩ = some (.int .u64 d) from ⟨(f.blk HB0.out (by simp <;> omega)).at 0 rfl, (f.blk HB0.out (by simp <;> omega)).at 1 rfl, (f.blk HB0.out (by simp <;> omega)).at 2 rfl, (f.blk HB0.out (by simp <;> omega)).at 3 rfl⟩)
  obtain ⟨c0, c1, c2, c3⟩ := SS.out _ (Fr.refl _ w0)
  go_region_held3 (fun w' => w'.cell? ⟨z0, 0, none⟩ = some (.int .u64 a) ∧ w'.cell? ⟨z0, 1, none⟩ = some (.int .u64 b) ∧ w'.cell? ⟨z0, 2, none⟩ = some (.int .u64 c) ∧ w'.cell? ⟨z0, 3, none⟩ = some (.int .u64 d)) (first | (refine SS.out _ ?_; repeat (first | exact F3 | exact F2 | exact F1 | exact Fr.refl _ _ | refine Fr.drew ?_ | refine Fr.drewN ?_ _ | refine Fr.alloc ?_ _ | refine Fr.setCell ?_ _ _ (.inl (by simp)))))
    (first
      | (go_at_call 10; have _ := G1; refine (of_fr _ _ _).mono ?_; rintro e w2 ⟨rfl, f2⟩; have G2 : Fr [] w0 w2 := (by refine Fr.trans ?_ f2 (by simp); repeat (first | exact G2 | exact G1 | exact Fr.refl _ _ | refine Fr.drew ?_ | refine Fr.drewN ?_ _)); have F2 : Fr [z0 + 1] w0 w2 := G2.mono (by simp); clear f2; have hb := G2.blk HB1.out (by simp); have k0 := hb.at 0 (v := .complex .f64 0 0) rfl; have m0 := hb.free 0; have k1 := hb.at 1 (v := .complex .f64 0 0) rfl; have m1 := hb.free 1; have HK := Lib.hid hb; clear hb)
      | (go_at_call 10; refine (of_fr _ _ _).mono ?_; rintro e w1 ⟨rfl, f1⟩; have G1 : Fr [] w0 w1 := (by refine Fr.trans ?_ f1 (by simp); repeat (first | exact G2 | exact G1 | exact Fr.refl _ _ | refine Fr.drew ?_ | refine Fr.drewN ?_ _)); have F1 : Fr [z0 + 1] w0 w1 := G1.mono (by simp); clear f1))
  simp only [Exit.then]
  go_wp2
  obtain ⟨h0, h1⟩ := lay2_cells HK.out (by simp) (.complex .f64 a b) (.complex .f64 c d)
  exact bodyPost_ret (ret_sim rfl rfl h0 h1) rfl ⟨rfl, Fr.lay2 (HF.out.trans G2 (by simp)) _ _ _ (.inr (by have := HZ.out; omega))⟩

end Go.Proofs.Ytkbcdfniocmamaa
