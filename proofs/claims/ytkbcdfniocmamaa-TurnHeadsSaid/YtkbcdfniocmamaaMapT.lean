/-
  Fit of package turn, by contract.
-/
import Derived.Test.YtkbcdfniocmamaaMapS
import Derived.Test.YtkbcdfniocmamaaMapE
namespace Go.Proofs.Ytkbcdfniocmamaa
open Go.RowKit Flo
set_option linter.unusedVariables false

/-- What brings two points to two others: a quotient; what is left. -/
def FitR (m n m2 n2 a b a2 b2 : Int) (x y u v : Nat) : Prop := ByR (fl m2) (fl n2) (fl m) (fl n) x y ∧ ∃ p q, TimesR x y (fl a) (fl b) p q ∧ MinusR (fl a2) (fl b2) p q u v
def FitOut (a b c d a2 b2 c2 d2 : Int) (er : Int) (x y u v : Nat) : Prop :=
  ((a = c ∧ b = d) ∧ er = 80 ∧ x = 0 ∧ y = 0 ∧ u = 0 ∧ v = 0) ∨ (¬ (a = c ∧ b = d) ∧ er = 0 ∧ FitR (c - a) (d - b) (c2 - a2) (d2 - b2) a b a2 b2 x y u v)
set_option maxHeartbeats 4000000 in
theorem fit_any (w : World) (a b c d a2 b2 c2 d2 : Int) (ha : I32 a) (hb : I32 b) (hc : I32 c) (hd : I32 d) (ha2 : I32 a2) (hb2 : I32 b2) (hc2 : I32 c2) (hd2 : I32 d2) : Calls Try.prog 31 #[.agg #[.int .i32 a, .int .i32 b], .agg #[.int .i32 c, .int .i32 d], .agg #[.int .i32 a2, .int .i32 b2], .agg #[.int .i32 c2, .int .i32 d2]] w fun e w' => ∃ er x y u v, e = .returned (.tuple #[.agg #[.complex .f64 x y, .complex .f64 u v], .int .i64 er]) ∧ FitOut a b c d a2 b2 c2 d2 er x y u v ∧ Fr [] w w' := by
  have hB0 := (((((Blk.new_at (w := w) (k := w.heap.size + 0) (by simp) #[.int .i32 a, .int .i32 b] 64).alloc (.cells #[.int .i32 c, .int .i32 d] 64)).alloc (.cells #[.int .i32 a2, .int .i32 b2] 64)).alloc (.cells #[.int .i32 c2, .int .i32 d2] 64)).alloc (.cells #[.complex .f64 0 0, .complex .f64 0 0] 28))
  have hB1 := ((((Blk.new_at (w := (World.alloc w (.cells #[.int .i32 a, .int .i32 b] 64))) (k := w.heap.size + 1) (by simp) #[.int .i32 c, .int .i32 d] 64).alloc (.cells #[.int .i32 a2, .int .i32 b2] 64)).alloc (.cells #[.int .i32 c2, .int .i32 d2] 64)).alloc (.cells #[.complex .f64 0 0, .complex .f64 0 0] 28))
  have hB2 := (((Blk.new_at (w := (World.alloc (World.alloc w (.cells #[.int .i32 a, .int .i32 b] 64)) (.cells #[.int .i32 c, .int .i32 d] 64))) (k := w.heap.size + 2) (by simp) #[.int .i32 a2, .int .i32 b2] 64).alloc (.cells #[.int .i32 c2, .int .i32 d2] 64)).alloc (.cells #[.complex .f64 0 0, .complex .f64 0 0] 28))
  have hB3 := ((Blk.new_at (w := (World.alloc (World.alloc (World.alloc w (.cells #[.int .i32 a, .int .i32 b] 64)) (.cells #[.int .i32 c, .int .i32 d] 64)) (.cells #[.int .i32 a2, .int .i32 b2] 64))) (k := w.heap.size + 3) (by simp) #[.int .i32 c2, .int .i32 d2] 64).alloc (.cells #[.complex .f64 0 0, .complex .f64 0 0] 28))
  have hB4 := (Blk.new_at (w := (World.alloc (World.alloc (World.alloc (World.alloc w (.cells #[.int .i32 a, .int .i32 b] 64)) (.cells #[.int .i32 c, .int .i32 d] 64)) (.cells #[.int .i32 a2, .int .i32 b2] 64)) (.cells #[.int .i32 c2, .int .i32 d2] 64))) (k := w.heap.size + 4) (by simp) #[.complex .f64 0 0, .complex .f64 0 0] 28)
  have f0 := ((((((Fr.refl [] w).alloc (.cells #[.int .i32 a, .int .i32 b] 64)).alloc (.cells #[.int .i32 c, .int .i32 d] 64)).alloc (.cells #[.int .i32 a2, .int .i32 b2] 64)).alloc (.cells #[.int .i32 c2, .int .i32 d2] 64)).alloc (.cells #[.complex .f64 0 0, .complex .f64 0 0] 28))
  obtain ⟨z0, hz0⟩ : ∃ z, z = w.heap.size := ⟨_, rfl⟩
  rw [show w.heap.size + 0 = z0 by omega] at hB0
  rw [show w.heap.size + 1 = z0 + 1 by omega] at hB1
  rw [show w.heap.size + 2 = z0 + 1 + 1 by omega] at hB2
  rw [show w.heap.size + 3 = z0 + 1 + 1 + 1 by omega] at hB3
  rw [show w.heap.size + 4 = z0 + 1 + 1 + 1 + 1 by omega] at hB4
  have HZ := Lib.hid (show w.heap.size ≤ z0 from by omega)
  have HF := Lib.hid f0
  have HB0 := Lib.hid hB0
  have HB1 := Lib.hid hB1
  have HB2 := Lib.hid hB2
  have HB3 := Lib.hid hB3
  have HB4 := Lib.hid hB4
  clear f0 hB0 hB1 hB2 hB3 hB4
  have M1 := Lib.hid (fun w => way_any w a2 b2 c2 d2 ha2 hb2 hc2 hd2)
  have M2 := Lib.hid (fun w => way_any w a b c d ha hb hc hd)
  have M3 := Lib.hid (fun w => ptAt_any w a b ha hb)
  have M4 := Lib.hid (fun w => ptAt_any w a2 b2 ha2 hb2)
  clear ha hb hc hd ha2 hb2 hc2 hd2
  have EO := Lib.hid (show FitOut a b c d a2 b2 c2 d2 = fun er x y u v => ((a = c ∧ b = d) ∧ er = 80 ∧ x = 0 ∧ y = 0 ∧ u = 0 ∧ v = 0) ∨ (¬ (a = c ∧ b = d) ∧ er = 0 ∧ FitR (c - a) (d - b) (c2 - a2) (d2 - b2) a b a2 b2 x y u v) from rfl)
  generalize FitOut a b c d a2 b2 c2 d2 = FO at *
  by_cases h1 : a = c ∧ b = d
  · obtain ⟨rfl, rfl⟩ := h1
    clear M1 M2 M3 M4
    go_enter Try.func31, Try.ntmps31
    go_upto_region 1 with fail
    simp only [← hz0]
    clear hz0
    generalize (World.alloc (World.alloc (World.alloc (World.alloc (World.alloc w _) _) _) _) _) = w0v at *
    obtain ⟨w0, hw0⟩ : ∃ w0, w0 = w0v := ⟨_, rfl⟩
    rw [← hw0] at HB0
    rw [← hw0] at HB1
    rw [← hw0] at HB2
    rw [← hw0] at HB3
    rw [← hw0] at HB4
    rw [← hw0] at HF
    rw [← hw0]
    clear hw0
    have SS := Lib.hid (fun (W : World) (f : Fr [] w0 W) => show W.cell? ⟨z0, 0, none⟩ = some (.int .i32 a) ∧ W.cell? ⟨z0, 1, none⟩ = some (.int .i32 b) ∧ W.cell? ⟨z0 + 1, 0, none⟩ = some (.int .i32 a) ∧ W.cell? ⟨z0 + 1, 1, none⟩ = some (.int .i32 b) ∧ W.cell? ⟨z0 + 1 + 1 + 1 + 1, 0, none⟩ = some (.complex .f64 0 0) ∧ W.cell? ⟨z0 + 1 + 1 + 1 + 1, 1, none⟩ = some (.complex .f64 0 0) from ⟨(f.blk HB0.out (by simp <;> omega)).at 0 rfl, (f.blk HB0.out (by simp <;> omega)).at 1 rfl, (f.blk HB1.out (by simp <;> omega)).at 0 rfl, (f.blk HB1.out (by simp <;> omega)).at 1 rfl, (f.blk HB4.out (by simp <;> omega)).at 0 rfl, (f.blk HB4.out (by simp <;> omega)).at 1 rfl⟩)
    obtain ⟨o0, o1, o2, o3, o4, o5⟩ := SS.out _ (Fr.refl _ w0)
    have k0 := HB4.out.free 0
    have k1 := HB4.out.free 1
    go_wp2
    obtain ⟨q0, q1⟩ := lay2_cells HB4.out (by simp) (.complex .f64 0 0) (.complex .f64 0 0)
    refine bodyPost_ret (ret_sim2 rfl rfl rfl q0 q1) rfl ⟨_, _, _, _, _, rfl, ?_, Fr.lay2 HF.out _ _ _ (.inr (by have := HZ.out; omega))⟩
    rw [EO.out]
    exact .inl ⟨by simp, rfl, rfl, rfl, rfl, rfl⟩
  · have H1 := Lib.hid h1
    have h2 : ¬ a = c ∨ ¬ b = d := by omega
    clear h1
    rcases h2 with h2 | h2
    all_goals
      go_enter Try.func31, Try.ntmps31
      go_upto_region 1 with fail
      simp only [← hz0]
      clear hz0
      generalize (World.alloc (World.alloc (World.alloc (World.alloc (World.alloc w _) _) _) _) _) = w0v at *
      obtain ⟨w0, hw0⟩ : ∃ w0, w0 = w0v := ⟨_, rfl⟩
      rw [← hw0] at HB0
      rw [← hw0] at HB1
      rw [← hw0] at HB2
      rw [← hw0] at HB3
      rw [← hw0] at HB4
      rw [← hw0] at HF
      rw [← hw0]
      clear hw0
      have SS := Lib.hid (fun (W : World) (f : Fr [] w0 W) => show W.cell? ⟨z0, 0, none⟩ = some (.int .i32 a) ∧ W.cell? ⟨z0, 1, none⟩ = some (.int .i32 b) ∧ W.cell? ⟨z0 + 1, 0, none⟩ = some (.int .i32 c) ∧ W.cell? ⟨z0 + 1, 1, none⟩ = some (.int .i32 d) ∧ W.cell? ⟨z0 + 1 + 1, 0, none⟩ = some (.int .i32 a2) ∧ W.cell? ⟨z0 + 1 + 1, 1, none⟩ = some (.int .i32 b2) ∧ W.cell? ⟨z0 + 1 + 1 + 1, 0, none⟩ = some (.int .i32 c2) ∧ W.cell? ⟨z0 + 1 + 1 + 1, 1, none⟩ = some (.int .i32 d2) from ⟨(f.blk HB0.out (by simp <;> omega)).at 0 rfl, (f.blk HB0.out (by simp <;> omega)).at 1 rfl, (f.blk HB1.out (by simp <;> omega)).at 0 rfl, (f.blk HB1.out (by simp <;> omega)).at 1 rfl, (f.blk HB2.out (by simp <;> omega)).at 0 rfl, (f.blk HB2.out (by simp <;> omega)).at 1 rfl, (f.blk HB3.out (by simp <;> omega)).at 0 rfl, (f.blk HB3.out (by simp <;> omega)).at 1 rfl⟩)
      obtain ⟨o0, o1, o2, o3, o4, o5, o6, o7⟩ := SS.out _ (Fr.refl _ w0)
      go_upto_region 3 with fail
      clear h2
      generalize c - a = m at *
      generalize d - b = n at *
      generalize c2 - a2 = m2 at *
      generalize d2 - b2 = n2 at *
      go_cut [10] (fun s10 wx => ∃ x y, s10 = .complex .f64 x y ∧ ByR (fl m2) (fl n2) (fl m) (fl n) x y ∧ Fr [] w0 wx)
      case first =>
        go_region_held3 (fun w' => w'.cell? ⟨z0, 0, none⟩ = some (.int .i32 a) ∧ w'.cell? ⟨z0, 1, none⟩ = some (.int .i32 b) ∧ w'.cell? ⟨z0 + 1, 0, none⟩ = some (.int .i32 c) ∧ w'.cell? ⟨z0 + 1, 1, none⟩ = some (.int .i32 d) ∧ w'.cell? ⟨z0 + 1 + 1, 0, none⟩ = some (.int .i32 a2) ∧ w'.cell? ⟨z0 + 1 + 1, 1, none⟩ = some (.int .i32 b2) ∧ w'.cell? ⟨z0 + 1 + 1 + 1, 0, none⟩ = some (.int .i32 c2) ∧ w'.cell? ⟨z0 + 1 + 1 + 1, 1, none⟩ = some (.int .i32 d2)) (first | (refine SS.out _ ?_; repeat (first | exact F4 | exact F3 | exact F2 | exact F1 | exact Fr.refl _ _ | refine Fr.drew ?_ | refine Fr.drewN ?_ _ | refine Fr.alloc ?_ _ | refine Fr.setCell ?_ _ _ (.inl (by simp)))))
          (first
            | (go_at_call_of 62 (Value.agg #[Value.int IntKind.i32 a2, Value.int IntKind.i32 b2]); refine (M1.out _).mono ?_; rintro e w1 ⟨rfl, f1⟩; have G1 : Fr [] w0 w1 := (by refine Fr.trans ?_ f1 (by simp); repeat (first | exact G3 | exact G2 | exact G1 | exact Fr.refl _ _ | refine Fr.drew ?_ | refine Fr.drewN ?_ _)); have F1 : Fr [] w0 w1 := G1.mono (by simp); clear f1)
            | (go_at_call_of 62 (Value.agg #[Value.int IntKind.i32 c, Value.int IntKind.i32 d]); refine (M2.out _).mono ?_; rintro e w2 ⟨rfl, f2⟩; have G2 : Fr [] w0 w2 := (by refine Fr.trans ?_ f2 (by simp); repeat (first | exact G3 | exact G2 | exact G1 | exact Fr.refl _ _ | refine Fr.drew ?_ | refine Fr.drewN ?_ _)); have F2 : Fr [] w0 w2 := G2.mono (by simp); clear f2)
            | (go_at_call 61; refine (number_any _ _ _).mono ?_; rintro e w9 ⟨rfl, rfl⟩)
            | (go_at_call 48; refine (by_any _ _ _ _ _).mono ?_; rintro e w3 ⟨x, y, rfl, h3, f3⟩; have G3 : Fr [] w0 w3 := (by refine Fr.trans ?_ f3 (by simp); repeat (first | exact G3 | exact G2 | exact G1 | exact Fr.refl _ _ | refine Fr.drew ?_ | refine Fr.drewN ?_ _)); have F3 : Fr [] w0 w3 := G3.mono (by simp); have H3 := Lib.hid h3; clear h3 f3))
        all_goals
          simp only [Exit.then]
          go_wp2_with fail
          go_meet
          case rel => exact ⟨_, _, rfl, H3.out, by repeat (first | exact G3 | refine Fr.drew ?_ | refine Fr.drewN ?_ _)⟩
      case rest =>
        obtain ⟨x, y, rfl, hby, g0⟩ := hcut
        obtain ⟨o0, o1, o2, o3, o4, o5, o6, o7⟩ := SS.out _ g0
        have HY := Lib.hid hby
        have hb0 := g0.blk HB0.out (by simp)
        have hb2 := g0.blk HB2.out (by simp)
        have hb4 := g0.blk HB4.out (by simp)
        have hf := HF.out.trans g0 (by simp)
        clear hby g0 SS HB0 HB1 HB2 HB3 HB4 HF
        have HF := Lib.hid hf
        have HB0 := Lib.hid hb0
        have HB2 := Lib.hid hb2
        have HB4 := Lib.hid hb4
        clear hf hb0 hb2 hb4
        obtain ⟨w0, hw0⟩ : ∃ w0, w0 = wc := ⟨_, rfl⟩
        rw [← hw0] at HB0 HB2 HB4 HF
        rw [← hw0]
        clear hw0 o0 o1 o2 o3 o4 o5 o6 o7
        have SS := Lib.hid (fun (W : World) (f : Fr [z0 + 1 + 1 + 1 + 1] w0 W) => show W.cell? ⟨z0, 0, none⟩ = some (.int .i32 a) ∧ W.cell? ⟨z0, 1, none⟩ = some (.int .i32 b) ∧ W.cell? ⟨z0 + 1 + 1, 0, none⟩ = some (.int .i32 a2) ∧ W.cell? ⟨z0 + 1 + 1, 1, none⟩ = some (.int .i32 b2) from ⟨(f.blk HB0.out (by simp <;> omega)).at 0 rfl, (f.blk HB0.out (by simp <;> omega)).at 1 rfl, (f.blk HB2.out (by simp <;> omega)).at 0 rfl, (f.blk HB2.out (by simp <;> omega)).at 1 rfl⟩)
        obtain ⟨o0, o1, o2, o3⟩ := SS.out _ (Fr.refl _ w0)
        go_upto_region 4 with fail
        go_region_held3 (fun w' => w'.cell? ⟨z0, 0, none⟩ = some (.int .i32 a) ∧ w'.cell? ⟨z0, 1, none⟩ = some (.int .i32 b) ∧ w'.cell? ⟨z0 + 1 + 1, 0, none⟩ = some (.int .i32 a2) ∧ w'.cell? ⟨z0 + 1 + 1, 1, none⟩ = some (.int .i32 b2)) (first | (refine SS.out _ ?_; repeat (first | exact F4 | exact F3 | exact F2 | exact F1 | exact Fr.refl _ _ | refine Fr.drew ?_ | refine Fr.drewN ?_ _ | refine Fr.alloc ?_ _ | refine Fr.setCell ?_ _ _ (.inl (by simp)))))
        (first
          | (go_at_call_of 59 (Value.agg #[Value.int IntKind.i32 a, Value.int IntKind.i32 b]); refine (M3.out _).mono ?_; rintro e w1 ⟨rfl, f1⟩; have G1 : Fr [] w0 w1 := (by refine Fr.trans ?_ f1 (by simp); repeat (first | exact G3 | exact G2 | exact G1 | exact Fr.refl _ _ | refine Fr.drew ?_ | refine Fr.drewN ?_ _)); have F1 : Fr [z0 + 1 + 1 + 1 + 1] w0 w1 := G1.mono (by simp); clear f1)
          | (go_at_call_of 59 (Value.agg #[Value.int IntKind.i32 a2, Value.int IntKind.i32 b2]); refine (M4.out _).mono ?_; rintro e w2 ⟨rfl, f2⟩; have G2 : Fr [] w0 w2 := (by refine Fr.trans ?_ f2 (by simp); repeat (first | exact G3 | exact G2 | exact G1 | exact Fr.refl _ _ | refine Fr.drew ?_ | refine Fr.drewN ?_ _)); have F2 : Fr [z0 + 1 + 1 + 1 + 1] w0 w2 := G2.mono (by simp); clear f2)
          | (go_at_call 42; refine (times_any _ _ _ _ _).mono ?_; rintro e w3 ⟨p, q, rfl, h3, f3⟩; have G3 : Fr [] w0 w3 := (by refine Fr.trans ?_ f3 (by simp); repeat (first | exact G3 | exact G2 | exact G1 | exact Fr.refl _ _ | refine Fr.drew ?_ | refine Fr.drewN ?_ _)); have F3 : Fr [z0 + 1 + 1 + 1 + 1] w0 w3 := G3.mono (by simp); have H3 := Lib.hid h3; clear h3 f3)
          | (go_at_call 49; refine (minus_any _ _ _ _ _).mono ?_; rintro e w4 ⟨u, v, rfl, h4, f4⟩; have G4 : Fr [] w0 w4 := (by refine Fr.trans ?_ f4 (by simp); repeat (first | exact G3 | exact G2 | exact G1 | exact Fr.refl _ _ | refine Fr.drew ?_ | refine Fr.drewN ?_ _)); have F4 : Fr [z0 + 1 + 1 + 1 + 1] w0 w4 := G4.mono (by simp); have hb := G4.blk HB4.out (by simp); have k0 := hb.at 0 (v := .complex .f64 0 0) rfl; have m0 := hb.free 0; have k1 := hb.at 1 (v := .complex .f64 0 0) rfl; have m1 := hb.free 1; have HK := Lib.hid hb; clear hb; have H4 := Lib.hid h4; clear h4 f4))
        simp only [Exit.then]
        go_wp2
        obtain ⟨q0, q1⟩ := lay2_cells HK.out (by simp) (.complex .f64 x y) (.complex .f64 u v)
        refine bodyPost_ret (ret_sim2 rfl rfl rfl q0 q1) rfl ⟨_, _, _, _, _, rfl, ?_, Fr.lay2 (HF.out.trans G4 (by simp)) _ _ _ (.inr (by have := HZ.out; omega))⟩
        rw [EO.out]
        exact .inr ⟨H1.out, rfl, HY.out, _, _, H3.out, H4.out⟩
end Go.Proofs.Ytkbcdfniocmamaa
