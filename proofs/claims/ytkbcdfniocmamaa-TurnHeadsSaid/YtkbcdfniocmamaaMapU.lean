/-
  Fit of the document, by contract.
-/
import Derived.Test.YtkbcdfniocmamaaMapT
import Derived.Test.YtkbcdfniocmamaaMapM
import Derived.Test.YtkbcdfniocmamaaMapF
namespace Go.Proofs.Ytkbcdfniocmamaa
open Go.RowKit Flo
set_option linter.unusedVariables false

set_option maxHeartbeats 8000000 in
theorem refFit_any (w : World) (a b c d a2 b2 c2 d2 : Int) (ha : I32 a) (hb : I32 b) (hc : I32 c) (hd : I32 d) (ha2 : I32 a2) (hb2 : I32 b2) (hc2 : I32 c2) (hd2 : I32 d2) : Calls Try.prog 36 #[.agg #[.int .i32 a, .int .i32 b], .agg #[.int .i32 c, .int .i32 d], .agg #[.int .i32 a2, .int .i32 b2], .agg #[.int .i32 c2, .int .i32 d2]] w fun e w' => ∃ er x y u v, e = .returned (.tuple #[.agg #[.float .f64 x, .float .f64 y, .float .f64 u, .float .f64 v], .int .i64 er]) ∧ FitOut a b c d a2 b2 c2 d2 er x y u v ∧ Fr [] w w' := by
  have hB0 := (((((Blk.new_at (w := w) (k := w.heap.size + 0) (by simp) #[.int .i32 a, .int .i32 b] 64).alloc (.cells #[.int .i32 c, .int .i32 d] 64)).alloc (.cells #[.int .i32 a2, .int .i32 b2] 64)).alloc (.cells #[.int .i32 c2, .int .i32 d2] 64)).alloc (.cells #[.float .f64 0, .float .f64 0, .float .f64 0, .float .f64 0] 35))
  have hB1 := ((((Blk.new_at (w := (World.alloc w (.cells #[.int .i32 a, .int .i32 b] 64))) (k := w.heap.size + 1) (by simp) #[.int .i32 c, .int .i32 d] 64).alloc (.cells #[.int .i32 a2, .int .i32 b2] 64)).alloc (.cells #[.int .i32 c2, .int .i32 d2] 64)).alloc (.cells #[.float .f64 0, .float .f64 0, .float .f64 0, .float .f64 0] 35))
  have hB2 := (((Blk.new_at (w := (World.alloc (World.alloc w (.cells #[.int .i32 a, .int .i32 b] 64)) (.cells #[.int .i32 c, .int .i32 d] 64))) (k := w.heap.size + 2) (by simp) #[.int .i32 a2, .int .i32 b2] 64).alloc (.cells #[.int .i32 c2, .int .i32 d2] 64)).alloc (.cells #[.float .f64 0, .float .f64 0, .float .f64 0, .float .f64 0] 35))
  have hB3 := ((Blk.new_at (w := (World.alloc (World.alloc (World.alloc w (.cells #[.int .i32 a, .int .i32 b] 64)) (.cells #[.int .i32 c, .int .i32 d] 64)) (.cells #[.int .i32 a2, .int .i32 b2] 64))) (k := w.heap.size + 3) (by simp) #[.int .i32 c2, .int .i32 d2] 64).alloc (.cells #[.float .f64 0, .float .f64 0, .float .f64 0, .float .f64 0] 35))
  have hB4 := (Blk.new_at (w := (World.alloc (World.alloc (World.alloc (World.alloc w (.cells #[.int .i32 a, .int .i32 b] 64)) (.cells #[.int .i32 c, .int .i32 d] 64)) (.cells #[.int .i32 a2, .int .i32 b2] 64)) (.cells #[.int .i32 c2, .int .i32 d2] 64))) (k := w.heap.size + 4) (by simp) #[.float .f64 0, .float .f64 0, .float .f64 0, .float .f64 0] 35)
  have f0 := ((((((Fr.refl [] w).alloc (.cells #[.int .i32 a, .int .i32 b] 64)).alloc (.cells #[.int .i32 c, .int .i32 d] 64)).alloc (.cells #[.int .i32 a2, .int .i32 b2] 64)).alloc (.cells #[.int .i32 c2, .int .i32 d2] 64)).alloc (.cells #[.float .f64 0, .float .f64 0, .float .f64 0, .float .f64 0] 35))
  obtain ⟨z0, hz0⟩ : ∃ z, z = w.heap.size := ⟨_, rfl⟩
  rw [show w.heap.size + 0 = z0 by omega] at hB0
  rw [show w.heap.size + 1 = z0 + 1 by omega] at hB1
  rw [show w.heap.size + 2 = z0 + 1 + 1 by omega] at hB2
  rw [show w.heap.size + 3 = z0 + 1 + 1 + 1 by omega] at hB3
  rw [show w.heap.size + 4 = z0 + 1 + 1 + 1 + 1 by omega] at hB4
  have HZ := Lib.hid (show w.heap.size ≤ z0 from by omega)
  have HF := Lib.hid f0
  have HB0 := Lib.hid hB0
  have HB1 := Lib.hid hB1
  have HB2 := Lib.hid hB2
  have HB3 := Lib.hid hB3
  have HB4 := Lib.hid hB4
  clear f0 hB0 hB1 hB2 hB3 hB4
  have M1 := Lib.hid (fun w => refWay_any w a2 b2 c2 d2 ha2 hb2 hc2 hd2)
  have M2 := Lib.hid (fun w => refWay_any w a b c d ha hb hc hd)
  clear ha hb hc hd ha2 hb2 hc2 hd2
  have EO := Lib.hid (show FitOut a b c d a2 b2 c2 d2 = fun er x y u v => ((a = c ∧ b = d) ∧ er = 80 ∧ x = 0 ∧ y = 0 ∧ u = 0 ∧ v = 0) ∨ (¬ (a = c ∧ b = d) ∧ er = 0 ∧ FitR (c - a) (d - b) (c2 - a2) (d2 - b2) a b a2 b2 x y u v) from rfl)
  generalize FitOut a b c d a2 b2 c2 d2 = FO at *
  by_cases h1 : a = c ∧ b = d
  · obtain ⟨rfl, rfl⟩ := h1
    clear M1 M2
    go_enter Try.func36, Try.ntmps36
    go_upto_region 1 with fail
    simp only [← hz0]
    clear hz0
    generalize (World.alloc (World.alloc (World.alloc (World.alloc (World.alloc w _) _) _) _) _) = w0v at *
    obtain ⟨w0, hw0⟩ : ∃ w0, w0 = w0v := ⟨_, rfl⟩
    rw [← hw0] at HB0
    rw [← hw0] at HB1
    rw [← hw0] at HB2
    rw [← hw0] at HB3
    rw [← hw0] at HB4
    rw [← hw0] at HF
    rw [← hw0]
    clear hw0
    have SS := Lib.hid (fun (W : World) (f : Fr [] w0 W) => show W.cell? ⟨z0, 0, none⟩ = some (.int .i32 a) ∧ W.cell? ⟨z0, 1, none⟩ = some (.int .i32 b) ∧ W.cell? ⟨z0 + 1, 0, none⟩ = some (.int .i32 a) ∧ W.cell? ⟨z0 + 1, 1, none⟩ = some (.int .i32 b) ∧ W.cell? ⟨z0 + 1 + 1 + 1 + 1, 0, none⟩ = some (.float .f64 0) ∧ W.cell? ⟨z0 + 1 + 1 + 1 + 1, 1, none⟩ = some (.float .f64 0) ∧ W.cell? ⟨z0 + 1 + 1 + 1 + 1, 2, none⟩ = some (.float .f64 0) ∧ W.cell? ⟨z0 + 1 + 1 + 1 + 1, 3, none⟩ = some (.float .f64 0) from ⟨(f.blk HB0.out (by simp <;> omega)).at 0 rfl, (f.blk HB0.out (by simp <;> omega)).at 1 rfl, (f.blk HB1.out (by simp <;> omega)).at 0 rfl, (f.blk HB1.out (by simp <;> omega)).at 1 rfl, (f.blk HB4.out (by simp <;> omega)).at 0 rfl, (f.blk HB4.out (by simp <;> omega)).at 1 rfl, (f.blk HB4.out (by simp <;> omega)).at 2 rfl, (f.blk HB4.out (by simp <;> omega)).at 3 rfl⟩)
    obtain ⟨o0, o1, o2, o3, o4, o5, o6, o7⟩ := SS.out _ (Fr.refl _ w0)
    have k0 := HB4.out.free 0
    have k1 := HB4.out.free 1
    have k2 := HB4.out.free 2
    have k3 := HB4.out.free 3
    go_wp2
    obtain ⟨q0, q1, q2, q3⟩ := lay4_cells HB4.out (by simp) (.float .f64 0) (.float .f64 0) (.float .f64 0) (.float .f64 0)
    refine bodyPost_ret (ret_map2 rfl rfl rfl q0 q1 q2 q3) rfl ⟨_, _, _, _, _, rfl, ?_, Fr.lay4 HF.out _ _ _ _ _ (.inr (by have := HZ.out; omega))⟩
    rw [EO.out]
    exact .inl ⟨by simp, rfl, rfl, rfl, rfl, rfl⟩
  · have H1 := Lib.hid h1
    have h2 : ¬ a = c ∨ ¬ b = d := by omega
    clear h1
    rcases h2 with h2 | h2
    all_goals
      go_enter Try.func36, Try.ntmps36
      go_upto_region 1 with fail
      simp only [← hz0]
      clear hz0
      generalize (World.alloc (World.alloc (World.alloc (World.alloc (World.alloc w _) _) _) _) _) = w0v at *
      obtain ⟨w0, hw0⟩ : ∃ w0, w0 = w0v := ⟨_, rfl⟩
      rw [← hw0] at HB0
      rw [← hw0] at HB1
      rw [← hw0] at HB2
      rw [← hw0] at HB3
      rw [← hw0] at HB4
      rw [← hw0] at HF
      rw [← hw0]
      clear hw0
      have SS := Lib.hid (fun (W : World) (f : Fr [] w0 W) => show W.cell? ⟨z0, 0, none⟩ = some (.int .i32 a) ∧ W.cell? ⟨z0, 1, none⟩ = some (.int .i32 b) ∧ W.cell? ⟨z0 + 1, 0, none⟩ = some (.int .i32 c) ∧ W.cell? ⟨z0 + 1, 1, none⟩ = some (.int .i32 d) ∧ W.cell? ⟨z0 + 1 + 1, 0, none⟩ = some (.int .i32 a2) ∧ W.cell? ⟨z0 + 1 + 1, 1, none⟩ = some (.int .i32 b2) ∧ W.cell? ⟨z0 + 1 + 1 + 1, 0, none⟩ = some (.int .i32 c2) ∧ W.cell? ⟨z0 + 1 + 1 + 1, 1, none⟩ = some (.int .i32 d2) from ⟨(f.blk HB0.out (by simp <;> omega)).at 0 rfl, (f.blk HB0.out (by simp <;> omega)).at 1 rfl, (f.blk HB1.out (by simp <;> omega)).at 0 rfl, (f.blk HB1.out (by simp <;> omega)).at 1 rfl, (f.blk HB2.out (by simp <;> omega)).at 0 rfl, (f.blk HB2.out (by simp <;> omega)).at 1 rfl, (f.blk HB3.out (by simp <;> omega)).at 0 rfl, (f.blk HB3.out (by simp <;> omega)).at 1 rfl⟩)
      obtain ⟨o0, o1, o2, o3, o4, o5, o6, o7⟩ := SS.out _ (Fr.refl _ w0)
      go_upto_region 3 with fail
      clear h2
      generalize c - a = m at *
      generalize d - b = n at *
      generalize c2 - a2 = m2 at *
      generalize d2 - b2 = n2 at *
      go_cut [10] (fun s10 wx => ∃ z x y, s10 = .pointer (some ⟨z, 0, none⟩) ∧ ByR (fl m2) (fl n2) (fl m) (fl n) x y ∧ Blk wx z #[.float .f64 x, .float .f64 y] 33 ∧ Fr [] w0 wx)
      case first =>
        go_region_held3 (fun w' => w'.cell? ⟨z0, 0, none⟩ = some (.int .i32 a) ∧ w'.cell? ⟨z0, 1, none⟩ = some (.int .i32 b) ∧ w'.cell? ⟨z0 + 1, 0, none⟩ = some (.int .i32 c) ∧ w'.cell? ⟨z0 + 1, 1, none⟩ = some (.int .i32 d) ∧ w'.cell? ⟨z0 + 1 + 1, 0, none⟩ = some (.int .i32 a2) ∧ w'.cell? ⟨z0 + 1 + 1, 1, none⟩ = some (.int .i32 b2) ∧ w'.cell? ⟨z0 + 1 + 1 + 1, 0, none⟩ = some (.int .i32 c2) ∧ w'.cell? ⟨z0 + 1 + 1 + 1, 1, none⟩ = some (.int .i32 d2)) (first | (refine SS.out _ ?_; repeat (first | exact F3 | exact F2 | exact F1 | exact Fr.refl _ _ | refine Fr.drew ?_ | refine Fr.drewN ?_ _ | refine Fr.alloc ?_ _ | refine Fr.setCell ?_ _ _ (.inr (by first | exact F1.size | exact F2.size | exact F3.size | (have := F1.size; simp; omega) | (have := F2.size; simp; omega) | (have := F3.size; simp; omega) | simp)))))
          (first
            | (go_at_call_of 66 (Value.agg #[Value.int IntKind.i32 a2, Value.int IntKind.i32 b2]); refine (M1.out _).mono ?_; rintro e w1 ⟨rfl, f1⟩; have F1 : Fr [] w0 w1 := (by refine Fr.trans ?_ f1 (by simp); repeat (first | exact F3 | exact F2 | exact F1 | exact Fr.refl _ _ | refine Fr.drew ?_ | refine Fr.drewN ?_ _ | refine Fr.alloc ?_ _)); (try (have qw0 : Blk w1 (w0.heap.size) #[.float .f64 0, .float .f64 0] 33 := (Fr.blk f1 (by first | exact qw0 | exact qw0.drew | exact Blk.new w0 _ _ | exact (Blk.new w0 _ _).drew) (by simp)); have qw00 := qw0.at 0 (v := .float .f64 0) rfl; have qw01 := qw0.at 1 (v := .float .f64 0) rfl; have qw02 := qw0.free 0; have qw03 := qw0.free 1)); (try (have qw2 : Blk w1 (w2.heap.size) #[.float .f64 0, .float .f64 0] 33 := (Fr.blk f1 (by first | exact qw2 | exact qw2.drew | exact Blk.new w2 _ _ | exact (Blk.new w2 _ _).drew) (by simp)); have qw20 := qw2.at 0 (v := .float .f64 0) rfl; have qw21 := qw2.at 1 (v := .float .f64 0) rfl; have qw22 := qw2.free 0; have qw23 := qw2.free 1)); clear f1)
            | (go_at_call_of 66 (Value.agg #[Value.int IntKind.i32 c, Value.int IntKind.i32 d]); refine (M2.out _).mono ?_; rintro e w2 ⟨rfl, f2⟩; have F2 : Fr [] w0 w2 := (by refine Fr.trans ?_ f2 (by simp); repeat (first | exact F3 | exact F2 | exact F1 | exact Fr.refl _ _ | refine Fr.drew ?_ | refine Fr.drewN ?_ _ | refine Fr.alloc ?_ _)); (try (have qw0 : Blk w2 (w0.heap.size) #[.float .f64 0, .float .f64 0] 33 := (Fr.blk f2 (by first | exact qw0 | exact qw0.drew | exact Blk.new w0 _ _ | exact (Blk.new w0 _ _).drew) (by simp)); have qw00 := qw0.at 0 (v := .float .f64 0) rfl; have qw01 := qw0.at 1 (v := .float .f64 0) rfl; have qw02 := qw0.free 0; have qw03 := qw0.free 1)); (try (have qw1 : Blk w2 (w1.heap.size) #[.float .f64 0, .float .f64 0] 33 := (Fr.blk f2 (by first | exact qw1 | exact qw1.drew | exact Blk.new w1 _ _ | exact (Blk.new w1 _ _).drew) (by simp)); have qw10 := qw1.at 0 (v := .float .f64 0) rfl; have qw11 := qw1.at 1 (v := .float .f64 0) rfl; have qw12 := qw1.free 0; have qw13 := qw1.free 1)); clear f2)
            | (go_at_call 53; refine (refBy_any _ _ _ _ _).mono ?_; rintro e w3 ⟨x, y, rfl, h3, f3⟩; have F3 : Fr [] w0 w3 := (by refine Fr.trans ?_ f3 (by simp); repeat (first | exact F3 | exact F2 | exact F1 | exact Fr.refl _ _ | refine Fr.drew ?_ | refine Fr.drewN ?_ _ | refine Fr.alloc ?_ _)); (try (have qw0 : Blk w3 (w0.heap.size) #[.float .f64 0, .float .f64 0] 33 := (Fr.blk f3 (by first | exact qw0 | exact qw0.drew | exact Blk.new w0 _ _ | exact (Blk.new w0 _ _).drew) (by simp)); have qw00 := qw0.at 0 (v := .float .f64 0) rfl; have qw01 := qw0.at 1 (v := .float .f64 0) rfl; have qw02 := qw0.free 0; have qw03 := qw0.free 1)); (try (have qw1 : Blk w3 (w1.heap.size) #[.float .f64 0, .float .f64 0] 33 := (Fr.blk f3 (by first | exact qw1 | exact qw1.drew | exact Blk.new w1 _ _ | exact (Blk.new w1 _ _).drew) (by simp)); have qw10 := qw1.at 0 (v := .float .f64 0) rfl; have qw11 := qw1.at 1 (v := .float .f64 0) rfl; have qw12 := qw1.free 0; have qw13 := qw1.free 1)); (try (have qw2 : Blk w3 (w2.heap.size) #[.float .f64 0, .float .f64 0] 33 := (Fr.blk f3 (by first | exact qw2 | exact qw2.drew | exact Blk.new w2 _ _ | exact (Blk.new w2 _ _).drew) (by simp)); have qw20 := qw2.at 0 (v := .float .f64 0) rfl; have qw21 := qw2.at 1 (v := .float .f64 0) rfl; have qw22 := qw2.free 0; have qw23 := qw2.free 1)); have H3 := Lib.hid h3; clear h3 f3))
        all_goals
          simp only [Exit.then]
          go_wp2_with fail
          go_meet
          case rel =>
            refine ⟨_, _, _, rfl, H3.out, ?_, ?_⟩
            · (first | exact Blk.pair qw0 _ _ | exact Blk.pair qw0.drew _ _ | exact Blk.pair qw1 _ _ | exact Blk.pair qw1.drew _ _ | exact Blk.pair qw2 _ _ | exact Blk.pair qw2.drew _ _ | exact Blk.new _ _ _ | exact (Blk.new _ _ _).drew)
            · repeat (first | exact F3 | refine Fr.drew ?_ | refine Fr.alloc ?_ _ | refine Fr.setCell ?_ _ _ (.inr (by first | exact F1.size | exact F2.size | exact F3.size | (have := F1.size; simp; omega) | (have := F2.size; simp; omega) | (have := F3.size; simp; omega) | simp)))
      case rest =>
        obtain ⟨z10, x, y, rfl, hby, hb10, g0⟩ := hcut
        obtain ⟨o0, o1, o2, o3, o4, o5, o6, o7⟩ := SS.out _ g0
        have HY := Lib.hid hby
        have hb0 := g0.blk HB0.out (by simp)
        have hb2 := g0.blk HB2.out (by simp)
        have hb4 := g0.blk HB4.out (by simp)
        have hf := HF.out.trans g0 (by simp)
        clear hby g0 SS HB0 HB1 HB2 HB3 HB4 HF
        have p4 := (hb2.alloc (.cells #[.float .f64 (floatOfInt .f64 a), .float .f64 (floatOfInt .f64 b)] 33)).at 0 (v := .int .i32 a2) rfl
        have p5 := (hb2.alloc (.cells #[.float .f64 (floatOfInt .f64 a), .float .f64 (floatOfInt .f64 b)] 33)).at 1 (v := .int .i32 b2) rfl
        have hc10 := (hb10.alloc (.cells #[.float .f64 (floatOfInt .f64 a), .float .f64 (floatOfInt .f64 b)] 33)).alloc (.cells #[.float .f64 (floatOfInt .f64 a2), .float .f64 (floatOfInt .f64 b2)] 33)
        have hc11 := (Blk.new wc #[.float .f64 (floatOfInt .f64 a), .float .f64 (floatOfInt .f64 b)] 33).alloc (.cells #[.float .f64 (floatOfInt .f64 a2), .float .f64 (floatOfInt .f64 b2)] 33)
        have hc12 := Blk.new_at (w := wc.alloc (.cells #[.float .f64 (floatOfInt .f64 a), .float .f64 (floatOfInt .f64 b)] 33)) (k := wc.heap.size + 1) (by simp) #[.float .f64 (floatOfInt .f64 a2), .float .f64 (floatOfInt .f64 b2)] 33
        have hc4 := (hb4.alloc (.cells #[.float .f64 (floatOfInt .f64 a), .float .f64 (floatOfInt .f64 b)] 33)).alloc (.cells #[.float .f64 (floatOfInt .f64 a2), .float .f64 (floatOfInt .f64 b2)] 33)
        have hcf := (hf.alloc (.cells #[.float .f64 (floatOfInt .f64 a), .float .f64 (floatOfInt .f64 b)] 33)).alloc (.cells #[.float .f64 (floatOfInt .f64 a2), .float .f64 (floatOfInt .f64 b2)] 33)
        obtain ⟨z11, hz11⟩ : ∃ z, z = wc.heap.size := ⟨_, rfl⟩
        have HN := Lib.hid (show z10 < z11 ∧ z0 + 1 + 1 + 1 + 1 < z11 from ⟨by have := hb10.lt; omega, by have := hb4.lt; omega⟩)
        rw [← hz11] at hc11 hc12
        have HC := Lib.hid (And.intro hc10 (And.intro hc11 (And.intro hc12 (And.intro hc4 hcf))))
        clear hc10 hc11 hc12 hc4 hcf hb0 hb2 hb4 hb10 hf
        go_upto_region 6 with fail
        simp only [← hz11]
        clear hz11 p4 p5 o0 o1 o2 o3 o4 o5 o6 o7
        generalize World.alloc (World.alloc wc _) _ = w0v at *
        obtain ⟨w0, hw0⟩ : ∃ w0, w0 = w0v := ⟨_, rfl⟩
        rw [← hw0] at HC
        rw [← hw0]
        clear hw0
        have HA := Lib.hid HC.out.1
        have HB := Lib.hid HC.out.2.1
        have HD := Lib.hid HC.out.2.2.1
        have HE := Lib.hid HC.out.2.2.2.1
        have HG := Lib.hid HC.out.2.2.2.2
        clear HC
        have HM := Lib.hid (show z10 ≠ z0 + 1 + 1 + 1 + 1 from fun h => by have h1 := HA.out; have h2 := HE.out; rw [h] at h1; exact absurd (h1.inj h2).2 (by decide))
        have SS := Lib.hid (fun (W : World) (f : Fr [z0 + 1 + 1 + 1 + 1] w0 W) => show (W.cell? ⟨z10, 0, none⟩ = some (.float .f64 x) ∧ W.cell? ⟨z10, 1, none⟩ = some (.float .f64 y)) ∧ (W.cell? ⟨z11, 0, none⟩ = some (.float .f64 (floatOfInt .f64 a)) ∧ W.cell? ⟨z11, 1, none⟩ = some (.float .f64 (floatOfInt .f64 b))) ∧ (W.cell? ⟨z11 + 1, 0, none⟩ = some (.float .f64 (floatOfInt .f64 a2)) ∧ W.cell? ⟨z11 + 1, 1, none⟩ = some (.float .f64 (floatOfInt .f64 b2))) from
          ⟨⟨(f.blk HA.out (by simp; exact HM.out)).at 0 rfl, (f.blk HA.out (by simp; exact HM.out)).at 1 rfl⟩, ⟨(f.blk HB.out (by simp; have := HN.out; omega)).at 0 rfl, (f.blk HB.out (by simp; have := HN.out; omega)).at 1 rfl⟩, (f.blk HD.out (by simp; have := HN.out; omega)).at 0 rfl, (f.blk HD.out (by simp; have := HN.out; omega)).at 1 rfl⟩)
        obtain ⟨⟨s0, s1⟩, ⟨s2, s3⟩, s4, s5⟩ := SS.out _ (Fr.refl _ w0)
        go_region_held3 (fun w' => (w'.cell? ⟨z10, 0, none⟩ = some (.float .f64 x) ∧ w'.cell? ⟨z10, 1, none⟩ = some (.float .f64 y)) ∧ (w'.cell? ⟨z11, 0, none⟩ = some (.float .f64 (floatOfInt .f64 a)) ∧ w'.cell? ⟨z11, 1, none⟩ = some (.float .f64 (floatOfInt .f64 b))) ∧ (w'.cell? ⟨z11 + 1, 0, none⟩ = some (.float .f64 (floatOfInt .f64 a2)) ∧ w'.cell? ⟨z11 + 1, 1, none⟩ = some (.float .f64 (floatOfInt .f64 b2)))) (first | (refine SS.out _ ?_; repeat (first | exact F4 | exact F3 | exact F2 | exact F1 | exact Fr.refl _ _ | refine Fr.drew ?_ | refine Fr.drewN ?_ _ | refine Fr.alloc ?_ _ | refine Fr.setCell ?_ _ _ (.inl (by simp)))))
          (first
            | (go_at_call 44; refine (refTimes_any _ _ _ _ _).mono ?_; rintro e w3 ⟨p, q, rfl, h3, f3⟩; have G3 : Fr [] w0 w3 := (by refine Fr.trans ?_ f3 (by simp); repeat (first | exact G3 | exact G2 | exact G1 | exact Fr.refl _ _ | refine Fr.drew ?_ | refine Fr.drewN ?_ _)); have F3 : Fr [z0 + 1 + 1 + 1 + 1] w0 w3 := G3.mono (by simp); have H3 := Lib.hid h3; clear h3 f3)
            | (go_at_call 54; refine (refMinus_any _ _ _ _ _).mono ?_; rintro e w4 ⟨u, v, rfl, h4, f4⟩; have G4 : Fr [] w0 w4 := (by refine Fr.trans ?_ f4 (by simp); repeat (first | exact G3 | exact G2 | exact G1 | exact Fr.refl _ _ | refine Fr.drew ?_ | refine Fr.drewN ?_ _)); have F4 : Fr [z0 + 1 + 1 + 1 + 1] w0 w4 := G4.mono (by simp); have hb := G4.blk HE.out (by simp); have k0 := hb.at 0 (v := .float .f64 0) rfl; have m0 := hb.free 0; have k1 := hb.at 1 (v := .float .f64 0) rfl; have m1 := hb.free 1; have k2 := hb.at 2 (v := .float .f64 0) rfl; have m2 := hb.free 2; have k3 := hb.at 3 (v := .float .f64 0) rfl; have m3 := hb.free 3; have HK := Lib.hid hb; clear hb; have H4 := Lib.hid h4; clear h4 f4))
        all_goals
          simp only [Exit.then]
          go_wp2
          obtain ⟨q0, q1, q2, q3⟩ := lay4_cells HK.out (by simp) (.float .f64 x) (.float .f64 y) (.float .f64 u) (.float .f64 v)
          refine bodyPost_ret (ret_map2 rfl rfl rfl q0 q1 q2 q3) rfl ⟨_, _, _, _, _, rfl, ?_, Fr.lay4 (HG.out.trans G4 (by simp)) _ _ _ _ _ (.inr (by have := HZ.out; omega))⟩
          rw [EO.out]
          exact .inr ⟨H1.out, rfl, HY.out, _, _, H3.out, H4.out⟩
end Go.Proofs.Ytkbcdfniocmamaa
