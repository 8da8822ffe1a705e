/-
  What TurnPlaces answers: the walk.
-/
import Derived.Test.YtkbcdfniocmamaaMapU
import Derived.Test.YtkbcdfniocmamaaMapV
import Derived.Test.YtkbcdfniocmamaaMapN
namespace Go.Proofs.Ytkbcdfniocmamaa
open Go.RowKit Flo
set_option linter.unusedVariables false

theorem FitR.fe {m n m2 n2 a b a2 b2 : Int} {x y u v x' y' u' v' : Nat} (h : FitR m n m2 n2 a b a2 b2 x y u v) (k : FitR m n m2 n2 a b a2 b2 x' y' u' v') : FE x x' ∧ FE y y' ∧ FE u u' ∧ FE v v' := by
  obtain ⟨h1, p, q, h2, h3⟩ := h
  obtain ⟨k1, p', q', k2, k3⟩ := k
  have e1 := ByR.fe (.refl _) (.refl _) (.refl _) (.refl _) h1 k1
  have e2 := TimesR.fe e1.1 e1.2 (.refl _) (.refl _) h2 k2
  have e3 := MinusR.fe (.refl _) (.refl _) e2.1 e2.2 h3 k3
  exact ⟨e1.1, e1.2, e3.1, e3.2⟩
theorem FitOut.same {a b c d a2 b2 c2 d2 er er' : Int} {x y u v x' y' u' v' : Nat} (h : FitOut a b c d a2 b2 c2 d2 er x y u v) (k : FitOut a b c d a2 b2 c2 d2 er' x' y' u' v') : er' = er ∧ (FE x x' ∧ FE y y' ∧ FE u u' ∧ FE v v') := by
  rcases h with ⟨h1, rfl, rfl, rfl, rfl, rfl⟩ | ⟨h1, rfl, h2⟩ <;> rcases k with ⟨k1, rfl, rfl, rfl, rfl, rfl⟩ | ⟨k1, rfl, k2⟩
  · exact ⟨rfl, .refl _, .refl _, .refl _, .refl _⟩
  · exact absurd h1 k1
  · exact absurd k1 h1
  · exact ⟨rfl, FitR.fe h2 k2⟩
theorem LenR.fe {m n : Int} {l l' : Nat} (h : LenR m n l) (k : LenR m n l') : FE l l' := by
  obtain ⟨q, h1, h2⟩ := h
  obtain ⟨q', k1, k2⟩ := k
  exact sqrt_fe (SquareR.fe (.refl _) (.refl _) h1 k1) h2 k2
theorem HeadOut.fe {a b c d : Int} {r i r' i' : Nat} (h : HeadOut a b c d r i) (k : HeadOut a b c d r' i') : FE r r' ∧ FE i i' := by
  rcases h with ⟨h1, rfl, rfl⟩ | ⟨h1, l, h2, h3, h4⟩ <;> rcases k with ⟨k1, rfl, rfl⟩ | ⟨k1, l', k2, k3, k4⟩
  · exact ⟨.refl _, .refl _⟩
  · exact absurd h1 k1
  · exact absurd k1 h1
  · exact ⟨div_fe (.refl _) (h2.fe k2) h3 k3, div_fe (.refl _) (h2.fe k2) h4 k4⟩
theorem near_fe {r r' : Nat} (h : FE r r') : nearE r = nearE r' ∧ nearV r = nearV r' := by
  rcases h with rfl | ⟨h1, h2⟩
  · exact ⟨rfl, rfl⟩
  · unfold nearE nearV
    rw [h1, h2]
    exact ⟨rfl, rfl⟩
theorem place_fe {a b c d z y r i r' i' : Nat} (h : ApplyR a b c d z y r i) (k : ApplyR a b c d z y r' i') : placeE r' i' = placeE r i ∧ placeX r' i' = placeX r i ∧ placeY r' i' = placeY r i := by
  have e := ApplyR.fe h k
  have e1 := near_fe e.1
  have e2 := near_fe e.2
  unfold placeX placeY placeE
  rw [e1.1, e1.2, e2.1, e2.2]
  exact ⟨rfl, rfl, rfl⟩
namespace places
set_option maxRecDepth 100000 in
set_option maxHeartbeats 8000000 in
theorem walk (w : World) (a b c d a2 b2 c2 d2 : Int) (p q r s : Nat) (ha : I32 a) (hb : I32 b) (hc : I32 c) (hd : I32 d) (ha2 : I32 a2) (hb2 : I32 b2) (hc2 : I32 c2) (hd2 : I32 d2) :
    Calls Try.prog 8 #[.agg #[.int .i32 a, .int .i32 b, .int .i32 c, .int .i32 d, .int .i32 a2, .int .i32 b2, .int .i32 c2, .int .i32 d2], .agg #[.int .u64 p, .int .u64 q, .int .u64 r, .int .u64 s]] w fun e w' => e = .returned (.bool true) ∧ Fr [] w w' := by
  have M1 := Lib.hid (fun w => fit_any w a b c d a2 b2 c2 d2 ha hb hc hd ha2 hb2 hc2 hd2)
  have M2 := Lib.hid (fun w => refFit_any w a b c d a2 b2 c2 d2 ha hb hc hd ha2 hb2 hc2 hd2)
  have M3 := Lib.hid (fun w => place_any w p q r s a b ha hb 0)
  have M4 := Lib.hid (fun w => refPlace_any w p q r s a b ha hb)
  have M5 := Lib.hid (fun w => heading_any w a b c d ha hb hc hd)
  have M6 := Lib.hid (fun w => refHeading_any w a b c d ha hb hc hd)
  clear ha hb hc hd ha2 hb2 hc2 hd2
  have hB0 := ((Blk.new_at (w := w) (k := w.heap.size + 0) (by simp) #[.int .i32 a, .int .i32 b, .int .i32 c, .int .i32 d, .int .i32 a2, .int .i32 b2, .int .i32 c2, .int .i32 d2] 82).alloc (.cells #[.int .u64 p, .int .u64 q, .int .u64 r, .int .u64 s] 24))
  have hB1 := (Blk.new_at (w := (World.alloc w (.cells #[.int .i32 a, .int .i32 b, .int .i32 c, .int .i32 d, .int .i32 a2, .int .i32 b2, .int .i32 c2, .int .i32 d2] 82))) (k := w.heap.size + 1) (by simp) #[.int .u64 p, .int .u64 q, .int .u64 r, .int .u64 s] 24)
  have f0 := (((Fr.refl [] w).alloc (.cells #[.int .i32 a, .int .i32 b, .int .i32 c, .int .i32 d, .int .i32 a2, .int .i32 b2, .int .i32 c2, .int .i32 d2] 82)).alloc (.cells #[.int .u64 p, .int .u64 q, .int .u64 r, .int .u64 s] 24))
  obtain ⟨z0, hz0⟩ : ∃ z, z = w.heap.size := ⟨_, rfl⟩
  rw [show w.heap.size + 0 = z0 by omega] at hB0
  rw [show w.heap.size + 1 = z0 + 1 by omega] at hB1
  have HZ := Lib.hid (show w.heap.size ≤ z0 from by omega)
  have HF := Lib.hid f0
  have HB0 := Lib.hid hB0
  have HB1 := Lib.hid hB1
  clear f0 hB0 hB1
  go_enter Try.func8, Try.ntmps8
  go_upto_region 1 with fail
  simp only [← hz0]
  clear hz0
  generalize (World.alloc (World.alloc w _) _) = w0v at *
  obtain ⟨w0, hw0⟩ : ∃ w0, w0 = w0v := ⟨_, rfl⟩
  rw [← hw0] at HB0
  rw [← hw0] at HB1
  rw [← hw0] at HF
  rw [← hw0]
  clear hw0
  have SS := Lib.hid (fun (W : World) (f : Fr [] w0 W) => show W.cell? ⟨z0, 0, none⟩ = some (.int .i32 a) ∧ W.cell? ⟨z0, 1, none⟩ = some (.int .i32 b) ∧ W.cell? ⟨z0, 2, none⟩ = some (.int .i32 c) ∧ W.cell? ⟨z0, 3, none⟩ = some (.int .i32 d) ∧ W.cell? ⟨z0, 4, none⟩ = some (.int .i32 a2) ∧ W.cell? ⟨z0, 5, none⟩ = some (.int .i32 b2) ∧ W.cell? ⟨z0, 6, none⟩ = some (.int .i32 c2) ∧ W.cell? ⟨z0, 7, none⟩ = some (.int .i32 d2) ∧ W.cell? ⟨z0 + 1, 0, none⟩ = some (.int .u64 p) ∧ W.cell? ⟨z0 + 1, 1, none⟩ = some (.int .u64 q) ∧ W.cell? ⟨z0 + 1, 2, none⟩ = some (.int .u64 r) ∧ W.cell? ⟨z0 + 1, 3, none⟩ = some (.int .u64 s) from ⟨(f.blk HB0.out (by simp <;> omega)).at 0 rfl, (f.blk HB0.out (by simp <;> omega)).at 1 rfl, (f.blk HB0.out (by simp <;> omega)).at 2 rfl, (f.blk HB0.out (by simp <;> omega)).at 3 rfl, (f.blk HB0.out (by simp <;> omega)).at 4 rfl, (f.blk HB0.out (by simp <;> omega)).at 5 rfl, (f.blk HB0.out (by simp <;> omega)).at 6 rfl, (f.blk HB0.out (by simp <;> omega)).at 7 rfl, (f.blk HB1.out (by simp <;> omega)).at 0 rfl, (f.blk HB1.out (by simp <;> omega)).at 1 rfl, (f.blk HB1.out (by simp <;> omega)).at 2 rfl, (f.blk HB1.out (by simp <;> omega)).at 3 rfl⟩)
  obtain ⟨o0, o1, o2, o3, o4, o5, o6, o7, o8, o9, o10, o11⟩ := SS.out _ (Fr.refl _ w0)
  go_wp2_with fail
  (with_reducible refine (M1.out _).mono ?_)
  rintro e w1 ⟨er, x, y, u, v, rfl, hk, f1⟩
  have HK := Lib.hid hk
  have G1 := Lib.hid (f1.alloc (.cells #[.complex .f64 x y, .complex .f64 u v] 28))
  have B1 := Lib.hid (Blk.new w1 #[.complex .f64 x y, .complex .f64 u v] 28)
  clear hk f1 o0 o1 o2 o3 o4 o5 o6 o7 o8 o9 o10 o11
  obtain ⟨o0, o1, o2, o3, o4, o5, o6, o7, o8, o9, o10, o11⟩ := SS.out _ G1.out
  go_wp2_with fail
  (with_reducible refine (M2.out _).mono ?_)
  rintro e w2 ⟨er2, x2, y2, u2, v2, rfl, hk2, f2⟩
  obtain ⟨rfl, hfe⟩ := HK.out.same hk2
  have HE := Lib.hid hfe
  have G2 := Lib.hid ((G1.out.trans f2 (by simp)).alloc (.cells #[.float .f64 x2, .float .f64 y2, .float .f64 u2, .float .f64 v2] 35))
  have B11 := (f2.blk B1.out (by simp)).alloc (.cells #[.float .f64 x2, .float .f64 y2, .float .f64 u2, .float .f64 v2] 35)
  have B2 := Blk.new w2 #[.float .f64 x2, .float .f64 y2, .float .f64 u2, .float .f64 v2] 35
  have k0 := B11.at 0 (v := .complex .f64 x y) rfl
  have k1 := B11.at 1 (v := .complex .f64 u v) rfl
  have l0 := B2.at 0 (v := .float .f64 x2) rfl
  have l1 := B2.at 1 (v := .float .f64 y2) rfl
  have l2 := B2.at 2 (v := .float .f64 u2) rfl
  have l3 := B2.at 3 (v := .float .f64 v2) rfl
  clear hk2 f2 B11 B2 hfe o0 o1 o2 o3 o4 o5 o6 o7 o8 o9 o10 o11
  go_wp2_with fail
  (with_reducible refine (alikeMap_true _ HE.out).mono ?_)
  rintro e w3 ⟨rfl, f3⟩
  have G3 := Lib.hid (G2.out.trans f3 (by simp))
  clear f3 k0 k1 l0 l1 l2 l3
  go_upto_region 5 with fail
  generalize w1.heap.size = z5 at *
  generalize w2.heap.size = z7 at *
  obtain ⟨o0, o1, o2, o3, o4, o5, o6, o7, o8, o9, o10, o11⟩ := SS.out _ G3.out
  have S3 := Lib.hid (fun (W : World) (f : Fr [] w3 W) => SS.out W (G3.out.trans f (by simp)))
  clear o0 o1 o2 o3 o4 o5 o6 o7 o8 o9 o10 o11
  go_cut [9, 10] (fun s9 s10 wx => ∃ z r1 i1, s9 = .pointer (some ⟨z, 0, none⟩) ∧ s10 = .int .i64 (placeE r1 i1) ∧ ApplyR p q r s (fl a) (fl b) r1 i1 ∧ Blk wx z #[.int .i32 (placeX r1 i1), .int .i32 (placeY r1 i1)] 64 ∧ Fr [] w3 wx)
  case first =>
    obtain ⟨o0, o1, o2, o3, o4, o5, o6, o7, o8, o9, o10, o11⟩ := S3.out _ (Fr.refl _ w3)
    go_region_held3 (fun w' => w'.cell? ⟨z0, 0, none⟩ = some (.int .i32 a) ∧ w'.cell? ⟨z0, 1, none⟩ = some (.int .i32 b) ∧ w'.cell? ⟨z0, 2, none⟩ = some (.int .i32 c) ∧ w'.cell? ⟨z0, 3, none⟩ = some (.int .i32 d) ∧ w'.cell? ⟨z0, 4, none⟩ = some (.int .i32 a2) ∧ w'.cell? ⟨z0, 5, none⟩ = some (.int .i32 b2) ∧ w'.cell? ⟨z0, 6, none⟩ = some (.int .i32 c2) ∧ w'.cell? ⟨z0, 7, none⟩ = some (.int .i32 d2) ∧ w'.cell? ⟨z0 + 1, 0, none⟩ = some (.int .u64 p) ∧ w'.cell? ⟨z0 + 1, 1, none⟩ = some (.int .u64 q) ∧ w'.cell? ⟨z0 + 1, 2, none⟩ = some (.int .u64 r) ∧ w'.cell? ⟨z0 + 1, 3, none⟩ = some (.int .u64 s)) (first | (refine S3.out _ ?_; repeat (first | exact F5 | exact F4 | exact Fr.refl _ _ | refine Fr.drew ?_ | refine Fr.drewN ?_ _ | refine Fr.alloc ?_ _ | refine Fr.setCell ?_ _ _ (.inr (by first | exact F4.size | exact F5.size | (have := F4.size; simp; omega) | (have := F5.size; simp; omega) | simp)))))
      (first
        | (go_at_call 9; refine (similar_any _ _ _ _ _).mono ?_; rintro e w4 ⟨rfl, f4⟩; have F4 : Fr [] w3 w4 := (by refine Fr.trans ?_ f4 (by simp); repeat (first | exact F5 | exact Fr.refl _ _ | refine Fr.drew ?_ | refine Fr.drewN ?_ _ | refine Fr.alloc ?_ _)); (try (have qw3 : Blk w4 (w3.heap.size) #[.int .i32 0, .int .i32 0] 64 := (Fr.blk f4 (by first | exact qw3 | exact qw3.drew | exact Blk.new w3 _ _ | exact (Blk.new w3 _ _).drew) (by simp)); have qw3_0 := qw3.at 0 (v := .int .i32 0) rfl; have qw3_f0 := qw3.free 0; have qw3_1 := qw3.at 1 (v := .int .i32 0) rfl; have qw3_f1 := qw3.free 1)); (try (have qw5 : Blk w4 (w5.heap.size) #[.int .i32 0, .int .i32 0] 64 := (Fr.blk f4 (by first | exact qw5 | exact qw5.drew | exact Blk.new w5 _ _ | exact (Blk.new w5 _ _).drew) (by simp)); have qw5_0 := qw5.at 0 (v := .int .i32 0) rfl; have qw5_f0 := qw5.free 0; have qw5_1 := qw5.at 1 (v := .int .i32 0) rfl; have qw5_f1 := qw5.free 1)); clear f4)
        | (go_at_call 30; refine (M3.out _).mono ?_; rintro e w5 ⟨r1, i1, h5, rfl, f5⟩; have F5 : Fr [] w3 w5 := (by refine Fr.trans ?_ f5 (by simp); repeat (first | exact F4 | exact Fr.refl _ _ | refine Fr.drew ?_ | refine Fr.drewN ?_ _ | refine Fr.alloc ?_ _)); (try (have qw3 : Blk w5 (w3.heap.size) #[.int .i32 0, .int .i32 0] 64 := (Fr.blk f5 (by first | exact qw3 | exact qw3.drew | exact Blk.new w3 _ _ | exact (Blk.new w3 _ _).drew) (by simp)); have qw3_0 := qw3.at 0 (v := .int .i32 0) rfl; have qw3_f0 := qw3.free 0; have qw3_1 := qw3.at 1 (v := .int .i32 0) rfl; have qw3_f1 := qw3.free 1)); (try (have qw4 : Blk w5 (w4.heap.size) #[.int .i32 0, .int .i32 0] 64 := (Fr.blk f5 (by first | exact qw4 | exact qw4.drew | exact Blk.new w4 _ _ | exact (Blk.new w4 _ _).drew) (by simp)); have qw4_0 := qw4.at 0 (v := .int .i32 0) rfl; have qw4_f0 := qw4.free 0; have qw4_1 := qw4.at 1 (v := .int .i32 0) rfl; have qw4_f1 := qw4.free 1)); have H5 := Lib.hid h5; clear h5 f5))
    all_goals
      simp only [Exit.then]
      go_wp2_with fail
      go_meet
      case rel =>
        refine ⟨_, _, _, rfl, rfl, H5.out, ?_, ?_⟩
        · (first | exact Blk.pair qw3 _ _ | exact Blk.pair qw3.drew _ _ | exact Blk.pair qw4 _ _ | exact Blk.pair qw4.drew _ _ | exact Blk.pair qw5 _ _ | exact Blk.pair qw5.drew _ _ | exact Blk.new _ _ _ | exact (Blk.new _ _ _).drew)
        · repeat (first | exact F5 | refine Fr.drew ?_ | refine Fr.drewN ?_ _ | refine Fr.alloc ?_ _ | refine Fr.setCell ?_ _ _ (.inr (by first | exact F4.size | exact F5.size | (have := F4.size; simp; omega) | (have := F5.size; simp; omega) | simp)))
  case rest =>
    obtain ⟨z9, r1, i1, rfl, rfl, h9, hb9, g9⟩ := hcut
    have H9 := Lib.hid h9
    have B9 := Lib.hid hb9
    have G4 := Lib.hid (G3.out.trans g9 (by simp))
    have PE := Lib.hid (fun r' i' (h : ApplyR p q r s (fl a) (fl b) r' i') => place_fe H9.out h)
    clear h9 hb9 g9 S3
    have S4 := Lib.hid (fun (W : World) (f : Fr [] wc W) => SS.out W (G4.out.trans f (by simp)))
    generalize placeE r1 i1 = EE at *
    generalize placeX r1 i1 = XX at *
    generalize placeY r1 i1 = YY at *
    obtain ⟨w6, hw6⟩ : ∃ w, w = wc := ⟨_, rfl⟩
    rw [← hw6] at B9 G4 S4
    rw [← hw6]
    clear hw6
    go_upto_region 6 with fail
    go_cut [11, 12] (fun s11 s12 wx => ∃ z, s11 = .pointer (some ⟨z, 0, none⟩) ∧ s12 = .int .i64 EE ∧ Blk wx z #[.int .i32 XX, .int .i32 YY] 64 ∧ Fr [] w6 wx)
    case first =>
      obtain ⟨o0, o1, o2, o3, o4, o5, o6, o7, o8, o9, o10, o11⟩ := S4.out _ (Fr.refl _ w6)
      go_region_held3 (fun w' => w'.cell? ⟨z0, 0, none⟩ = some (.int .i32 a) ∧ w'.cell? ⟨z0, 1, none⟩ = some (.int .i32 b) ∧ w'.cell? ⟨z0, 2, none⟩ = some (.int .i32 c) ∧ w'.cell? ⟨z0, 3, none⟩ = some (.int .i32 d) ∧ w'.cell? ⟨z0, 4, none⟩ = some (.int .i32 a2) ∧ w'.cell? ⟨z0, 5, none⟩ = some (.int .i32 b2) ∧ w'.cell? ⟨z0, 6, none⟩ = some (.int .i32 c2) ∧ w'.cell? ⟨z0, 7, none⟩ = some (.int .i32 d2) ∧ w'.cell? ⟨z0 + 1, 0, none⟩ = some (.int .u64 p) ∧ w'.cell? ⟨z0 + 1, 1, none⟩ = some (.int .u64 q) ∧ w'.cell? ⟨z0 + 1, 2, none⟩ = some (.int .u64 r) ∧ w'.cell? ⟨z0 + 1, 3, none⟩ = some (.int .u64 s)) (first | (refine S4.out _ ?_; repeat (first | exact F9 | exact F8 | exact F7 | exact Fr.refl _ _ | refine Fr.drew ?_ | refine Fr.drewN ?_ _ | refine Fr.alloc ?_ _ | refine Fr.setCell ?_ _ _ (.inr (by first | exact F7.size | exact F8.size | exact F9.size | (have := F7.size; simp; omega) | (have := F8.size; simp; omega) | (have := F9.size; simp; omega) | simp)))))
        (first
          | (go_at_call 9; refine (similar_any _ _ _ _ _).mono ?_; rintro e w7 ⟨rfl, f7⟩; have F7 : Fr [] w6 w7 := (by refine Fr.trans ?_ f7 (by simp); repeat (first | exact F9 | exact F8 | exact Fr.refl _ _ | refine Fr.drew ?_ | refine Fr.drewN ?_ _ | refine Fr.alloc ?_ _)); (try (have qw6 : Blk w7 (w6.heap.size) #[.int .i32 0, .int .i32 0] 64 := (Fr.blk f7 (by first | exact qw6 | exact qw6.drew | exact Blk.new w6 _ _ | exact (Blk.new w6 _ _).drew) (by simp)); have qw6_0 := qw6.at 0 (v := .int .i32 0) rfl; have qw6_f0 := qw6.free 0; have qw6_1 := qw6.at 1 (v := .int .i32 0) rfl; have qw6_f1 := qw6.free 1)); (try (have qw8 : Blk w7 (w8.heap.size) #[.int .i32 0, .int .i32 0] 64 := (Fr.blk f7 (by first | exact qw8 | exact qw8.drew | exact Blk.new w8 _ _ | exact (Blk.new w8 _ _).drew) (by simp)); have qw8_0 := qw8.at 0 (v := .int .i32 0) rfl; have qw8_f0 := qw8.free 0; have qw8_1 := qw8.at 1 (v := .int .i32 0) rfl; have qw8_f1 := qw8.free 1)); (try (have qw9 : Blk w7 (w9.heap.size) #[.int .i32 0, .int .i32 0] 64 := (Fr.blk f7 (by first | exact qw9 | exact qw9.drew | exact Blk.new w9 _ _ | exact (Blk.new w9 _ _).drew) (by simp)); have qw9_0 := qw9.at 0 (v := .int .i32 0) rfl; have qw9_f0 := qw9.free 0; have qw9_1 := qw9.at 1 (v := .int .i32 0) rfl; have qw9_f1 := qw9.free 1)); clear f7)
          | (go_at_call 11; refine (numMap_any _ _ _ _ _).mono ?_; rintro e w8 ⟨rfl, f8⟩; have F8 : Fr [] w6 w8 := (by refine Fr.trans ?_ f8 (by simp); repeat (first | exact F9 | exact F7 | exact Fr.refl _ _ | refine Fr.drew ?_ | refine Fr.drewN ?_ _ | refine Fr.alloc ?_ _)); (try (have qw6 : Blk w8 (w6.heap.size) #[.int .i32 0, .int .i32 0] 64 := (Fr.blk f8 (by first | exact qw6 | exact qw6.drew | exact Blk.new w6 _ _ | exact (Blk.new w6 _ _).drew) (by simp)); have qw6_0 := qw6.at 0 (v := .int .i32 0) rfl; have qw6_f0 := qw6.free 0; have qw6_1 := qw6.at 1 (v := .int .i32 0) rfl; have qw6_f1 := qw6.free 1)); (try (have qw7 : Blk w8 (w7.heap.size) #[.int .i32 0, .int .i32 0] 64 := (Fr.blk f8 (by first | exact qw7 | exact qw7.drew | exact Blk.new w7 _ _ | exact (Blk.new w7 _ _).drew) (by simp)); have qw7_0 := qw7.at 0 (v := .int .i32 0) rfl; have qw7_f0 := qw7.free 0; have qw7_1 := qw7.at 1 (v := .int .i32 0) rfl; have qw7_f1 := qw7.free 1)); (try (have qw9 : Blk w8 (w9.heap.size) #[.int .i32 0, .int .i32 0] 64 := (Fr.blk f8 (by first | exact qw9 | exact qw9.drew | exact Blk.new w9 _ _ | exact (Blk.new w9 _ _).drew) (by simp)); have qw9_0 := qw9.at 0 (v := .int .i32 0) rfl; have qw9_f0 := qw9.free 0; have qw9_1 := qw9.at 1 (v := .int .i32 0) rfl; have qw9_f1 := qw9.free 1)); clear f8)
          | (go_at_call 37; refine (M4.out _).mono ?_; rintro e w9 ⟨r2, i2, h9, rfl, f9⟩; have F9 : Fr [] w6 w9 := (by refine Fr.trans ?_ f9 (by simp); repeat (first | exact F8 | exact F7 | exact Fr.refl _ _ | refine Fr.drew ?_ | refine Fr.drewN ?_ _ | refine Fr.alloc ?_ _)); (try (have qw6 : Blk w9 (w6.heap.size) #[.int .i32 0, .int .i32 0] 64 := (Fr.blk f9 (by first | exact qw6 | exact qw6.drew | exact Blk.new w6 _ _ | exact (Blk.new w6 _ _).drew) (by simp)); have qw6_0 := qw6.at 0 (v := .int .i32 0) rfl; have qw6_f0 := qw6.free 0; have qw6_1 := qw6.at 1 (v := .int .i32 0) rfl; have qw6_f1 := qw6.free 1)); (try (have qw7 : Blk w9 (w7.heap.size) #[.int .i32 0, .int .i32 0] 64 := (Fr.blk f9 (by first | exact qw7 | exact qw7.drew | exact Blk.new w7 _ _ | exact (Blk.new w7 _ _).drew) (by simp)); have qw7_0 := qw7.at 0 (v := .int .i32 0) rfl; have qw7_f0 := qw7.free 0; have qw7_1 := qw7.at 1 (v := .int .i32 0) rfl; have qw7_f1 := qw7.free 1)); (try (have qw8 : Blk w9 (w8.heap.size) #[.int .i32 0, .int .i32 0] 64 := (Fr.blk f9 (by first | exact qw8 | exact qw8.drew | exact Blk.new w8 _ _ | exact (Blk.new w8 _ _).drew) (by simp)); have qw8_0 := qw8.at 0 (v := .int .i32 0) rfl; have qw8_f0 := qw8.free 0; have qw8_1 := qw8.at 1 (v := .int .i32 0) rfl; have qw8_f1 := qw8.free 1)); obtain ⟨e1, e2, e3⟩ := PE.out _ _ h9; rw [e1, e2, e3]; clear e1 e2 e3 h9 f9))
      all_goals
        simp only [Exit.then]
        go_wp2_with fail
        go_meet
        case rel =>
          refine ⟨_, rfl, rfl, ?_, ?_⟩
          · (first | exact Blk.pair qw6 _ _ | exact Blk.pair qw6.drew _ _ | exact Blk.pair qw7 _ _ | exact Blk.pair qw7.drew _ _ | exact Blk.pair qw8 _ _ | exact Blk.pair qw8.drew _ _ | exact Blk.pair qw9 _ _ | exact Blk.pair qw9.drew _ _ | exact Blk.new _ _ _ | exact (Blk.new _ _ _).drew)
          · repeat (first | exact F9 | refine Fr.drew ?_ | refine Fr.drewN ?_ _ | refine Fr.alloc ?_ _ | refine Fr.setCell ?_ _ _ (.inr (by first | exact F7.size | exact F8.size | exact F9.size | (have := F7.size; simp; omega) | (have := F8.size; simp; omega) | (have := F9.size; simp; omega) | simp)))
    case rest =>
      obtain ⟨z11, rfl, rfl, hb11, g11⟩ := hcut
      have B11 := Lib.hid hb11
      have B10 := Lib.hid (g11.blk B9.out (by simp))
      have G5 := Lib.hid (G4.out.trans g11 (by simp))
      clear hb11 g11 S4 B9
      obtain ⟨w10, hw10⟩ : ∃ w, w = wc := ⟨_, rfl⟩
      rw [← hw10] at B10 B11 G5
      rw [← hw10]
      clear hw10
      have S5 := Lib.hid (fun (W : World) (f : Fr [] w10 W) => show (W.cell? ⟨z0, 0, none⟩ = some (.int .i32 a) ∧ W.cell? ⟨z0, 1, none⟩ = some (.int .i32 b) ∧ W.cell? ⟨z0, 2, none⟩ = some (.int .i32 c) ∧ W.cell? ⟨z0, 3, none⟩ = some (.int .i32 d) ∧ W.cell? ⟨z0, 4, none⟩ = some (.int .i32 a2) ∧ W.cell? ⟨z0, 5, none⟩ = some (.int .i32 b2) ∧ W.cell? ⟨z0, 6, none⟩ = some (.int .i32 c2) ∧ W.cell? ⟨z0, 7, none⟩ = some (.int .i32 d2) ∧ W.cell? ⟨z0 + 1, 0, none⟩ = some (.int .u64 p) ∧ W.cell? ⟨z0 + 1, 1, none⟩ = some (.int .u64 q) ∧ W.cell? ⟨z0 + 1, 2, none⟩ = some (.int .u64 r) ∧ W.cell? ⟨z0 + 1, 3, none⟩ = some (.int .u64 s)) ∧ W.cell? ⟨z9, 0, none⟩ = some (.int .i32 XX) ∧ W.cell? ⟨z9, 1, none⟩ = some (.int .i32 YY) ∧ W.cell? ⟨z11, 0, none⟩ = some (.int .i32 XX) ∧ W.cell? ⟨z11, 1, none⟩ = some (.int .i32 YY) from ⟨SS.out W (G5.out.trans f (by simp)), (f.blk B10.out (by simp)).at 0 rfl, (f.blk B10.out (by simp)).at 1 rfl, (f.blk B11.out (by simp)).at 0 rfl, (f.blk B11.out (by simp)).at 1 rfl⟩)
      obtain ⟨⟨o0, o1, o2, o3, o4, o5, o6, o7, o8, o9, o10, o11⟩, t0, t1, t2, t3⟩ := S5.out _ (Fr.refl _ w10)
      go_upto_region 7 with fail
      go_region_held3 (fun w' => (w'.cell? ⟨z0, 0, none⟩ = some (.int .i32 a) ∧ w'.cell? ⟨z0, 1, none⟩ = some (.int .i32 b) ∧ w'.cell? ⟨z0, 2, none⟩ = some (.int .i32 c) ∧ w'.cell? ⟨z0, 3, none⟩ = some (.int .i32 d) ∧ w'.cell? ⟨z0, 4, none⟩ = some (.int .i32 a2) ∧ w'.cell? ⟨z0, 5, none⟩ = some (.int .i32 b2) ∧ w'.cell? ⟨z0, 6, none⟩ = some (.int .i32 c2) ∧ w'.cell? ⟨z0, 7, none⟩ = some (.int .i32 d2) ∧ w'.cell? ⟨z0 + 1, 0, none⟩ = some (.int .u64 p) ∧ w'.cell? ⟨z0 + 1, 1, none⟩ = some (.int .u64 q) ∧ w'.cell? ⟨z0 + 1, 2, none⟩ = some (.int .u64 r) ∧ w'.cell? ⟨z0 + 1, 3, none⟩ = some (.int .u64 s)) ∧ w'.cell? ⟨z9, 0, none⟩ = some (.int .i32 XX) ∧ w'.cell? ⟨z9, 1, none⟩ = some (.int .i32 YY) ∧ w'.cell? ⟨z11, 0, none⟩ = some (.int .i32 XX) ∧ w'.cell? ⟨z11, 1, none⟩ = some (.int .i32 YY)) (first | (refine S5.out _ ?_; repeat (first | exact Fl | exact Fa | exact Fi | exact Fh | exact Fr.refl _ _ | refine Fr.drew ?_ | refine Fr.drewN ?_ _)))
        (first
          | (go_at_call 34; refine (M5.out _).mono ?_; rintro e wh ⟨rh, ih, rfl, hh, fh⟩; have Fh : Fr [] w10 wh := (by refine Fr.trans ?_ fh (by simp); repeat (first | exact Fl | exact Fa | exact Fi | exact Fr.refl _ _ | refine Fr.drew ?_ | refine Fr.drewN ?_ _)); have HH := Lib.hid hh; clear hh fh)
          | (go_at_call 38; refine (M6.out _).mono ?_; rintro e wi ⟨rj, ij, rfl, hi, fi⟩; have Fi : Fr [] w10 wi := (by refine Fr.trans ?_ fi (by simp); repeat (first | exact Fl | exact Fa | exact Fh | exact Fr.refl _ _ | refine Fr.drew ?_ | refine Fr.drewN ?_ _)); have HI := Lib.hid hi; clear hi fi)
          | (go_at_call 12; refine (lawAlike_true _ (HeadOut.fe HH.out HI.out)).mono ?_; rintro e wa ⟨rfl, fa⟩; have Fa : Fr [] w10 wa := (by refine Fr.trans ?_ fa (by simp); repeat (first | exact Fl | exact Fi | exact Fh | exact Fr.refl _ _ | refine Fr.drew ?_ | refine Fr.drewN ?_ _)); clear fa)
          | (go_at_call 26; refine (lives_any _).mono ?_; rintro e wl ⟨rfl, fl⟩; have Fl : Fr [] w10 wl := (by refine Fr.trans ?_ fl (by simp); repeat (first | exact Fa | exact Fi | exact Fh | exact Fr.refl _ _ | refine Fr.drew ?_ | refine Fr.drewN ?_ _)); clear fl))
      all_goals
        simp only [Exit.then]
        go_wp2_with fail
        go_ret
        exact ⟨rfl, HF.out.trans (G5.out.trans (by repeat (first | exact Fl | refine Fr.drew ?_ | refine Fr.drewN ?_ _)) (by simp)) (by simp)⟩
end places
end Go.Proofs.Ytkbcdfniocmamaa
