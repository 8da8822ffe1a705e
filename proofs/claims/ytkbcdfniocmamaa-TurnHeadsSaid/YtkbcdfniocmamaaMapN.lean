/-
  What TurnMaps answers: the walk.
-/
import Derived.Test.YtkbcdfniocmamaaMapM
import Derived.Test.YtkbcdfniocmamaaMapG
import Derived.Test.YtkbcdfniocmamaaMapI
import Derived.Test.YtkbcdfniocmamaaMapD
namespace Go.Proofs.Ytkbcdfniocmamaa
open Go.RowKit Flo
set_option linter.unusedVariables false

theorem lawAlike_true (w : World) {a b c d : Nat} (h : FE a c ∧ FE b d) : Calls Try.prog 12 #[.complex .f64 a b, .agg #[.float .f64 c, .float .f64 d]] w (fun e w' => e = .returned (.bool true) ∧ Fr [] w w') :=
  alikeB2_fe h ▸ lawAlike_any w a b c d
theorem alikeMap_true (w : World) {a b c d a' b' c' d' : Nat} (h : FE a a' ∧ FE b b' ∧ FE c c' ∧ FE d d') : Calls Try.prog 16 #[.agg #[.complex .f64 a b, .complex .f64 c d], .agg #[.float .f64 a', .float .f64 b', .float .f64 c', .float .f64 d']] w (fun e w' => e = .returned (.bool true) ∧ Fr [] w w') :=
  mapB_fe h ▸ alikeMap_any w a b c d a' b' c' d'
theorem same_self (w : World) (a b c d : Nat) : Calls Try.prog 22 #[.agg #[.complex .f64 a b, .complex .f64 c d], .agg #[.complex .f64 a b, .complex .f64 c d]] w (fun e w' => e = .returned (.bool true) ∧ Fr [] w w') :=
  mapB_fe ⟨.refl a, .refl b, .refl c, .refl d⟩ ▸ same_any w a b c d a b c d
/-- What Back answers, in one form. -/
def BK (a b c d : Nat) (er : Int) (x y u v : Nat) : Prop := ∃ q, SquareR a b q ∧ ((flatB a b c d q = true ∧ er = 80 ∧ x = 0 ∧ y = 0 ∧ u = 0 ∧ v = 0) ∨ (flatB a b c d q = false ∧ er = 0 ∧ BackR a b c d x y u v))
def RBK (a b c d : Nat) (er : Int) (x y u v : Nat) : Prop := ∃ q, SquareR a b q ∧ ((flatR a b c d q = true ∧ er = 80 ∧ x = 0 ∧ y = 0 ∧ u = 0 ∧ v = 0) ∨ (flatR a b c d q = false ∧ er = 0 ∧ BackR a b c d x y u v))
theorem BK.same {a b c d : Nat} {er er' : Int} {x y u v x' y' u' v' : Nat} (h : BK a b c d er x y u v) (k : RBK a b c d er' x' y' u' v') : er' = er ∧ (FE x x' ∧ FE y y' ∧ FE u u' ∧ FE v v') := by
  obtain ⟨q, hq, h⟩ := h
  obtain ⟨q', hq', k⟩ := k
  rw [← flat_same hq hq'] at k
  rcases h with ⟨h1, rfl, rfl, rfl, rfl, rfl⟩ | ⟨h1, rfl, h2⟩ <;> rcases k with ⟨k1, rfl, rfl, rfl, rfl, rfl⟩ | ⟨k1, rfl, k2⟩
  · exact ⟨rfl, .refl _, .refl _, .refl _, .refl _⟩
  · rw [h1] at k1; cases k1
  · rw [h1] at k1; cases k1
  · exact ⟨rfl, BackR.fe h2 k2⟩
theorem back_uni (w : World) (a b c d : Nat) (ha : a < 2 ^ 64) (hb : b < 2 ^ 64) (hc : c < 2 ^ 64) (hd : d < 2 ^ 64) : Calls Try.prog 19 #[.agg #[.complex .f64 a b, .complex .f64 c d]] w fun e w' => ∃ er x y u v, e = .returned (.tuple #[.agg #[.complex .f64 x y, .complex .f64 u v], .int .i64 er]) ∧ BK a b c d er x y u v ∧ Fr [] w w' := by
  refine (back_any w a b c d ha hb hc hd).mono ?_
  rintro e w' ⟨q, hq, hf, ⟨h, rfl⟩ | ⟨h, x, y, u, v, hb, rfl⟩⟩
  · exact ⟨_, _, _, _, _, rfl, ⟨q, hq, .inl ⟨h, rfl, rfl, rfl, rfl, rfl⟩⟩, hf⟩
  · exact ⟨_, _, _, _, _, rfl, ⟨q, hq, .inr ⟨h, rfl, hb⟩⟩, hf⟩
theorem refBack_uni (w : World) (a b c d : Nat) : Calls Try.prog 20 #[.agg #[.float .f64 a, .float .f64 b, .float .f64 c, .float .f64 d]] w fun e w' => ∃ er x y u v, e = .returned (.tuple #[.agg #[.float .f64 x, .float .f64 y, .float .f64 u, .float .f64 v], .int .i64 er]) ∧ RBK a b c d er x y u v ∧ Fr [] w w' := by
  refine (refBack_any w a b c d).mono ?_
  rintro e w' ⟨q, hq, hf, ⟨h, rfl⟩ | ⟨h, x, y, u, v, hb, rfl⟩⟩
  · exact ⟨_, _, _, _, _, rfl, ⟨q, hq, .inl ⟨h, rfl, rfl, rfl, rfl, rfl⟩⟩, hf⟩
  · exact ⟨_, _, _, _, _, rfl, ⟨q, hq, .inr ⟨h, rfl, hb⟩⟩, hf⟩
@[go_sem] theorem unit_eq (w : World) : (Op.equalIn 9999 26 (.complex .f64 4607182418800017408 0) (.complex .f64 4607182418800017408 0)).run Try.prog w = .ok true w := by kernel_rfl
@[go_sem] theorem nought_eq (w : World) : (Op.equalIn 9999 26 (.complex .f64 0 0) (.complex .f64 0 0)).run Try.prog w = .ok true w := by kernel_rfl
set_option maxRecDepth 100000 in
set_option maxHeartbeats 8000000 in
theorem walk (w : World) (a b c d a2 b2 c2 d2 p q : Nat) (ha : a < 2 ^ 64) (hb : b < 2 ^ 64) (hc : c < 2 ^ 64) (hd : d < 2 ^ 64) :
    Calls Try.prog 3 #[.agg #[.int .u64 a, .int .u64 b, .int .u64 c, .int .u64 d], .agg #[.int .u64 a2, .int .u64 b2, .int .u64 c2, .int .u64 d2], .agg #[.int .u64 p, .int .u64 q]] w fun e w' => e = .returned (.bool true) ∧ Fr [] w w' := by
  have NB := Lib.hid (fun w => back_uni w a b c d ha hb hc hd)
  clear ha hb hc hd
  have hX := ((Blk.new w #[.int .u64 a, .int .u64 b, .int .u64 c, .int .u64 d] 24).alloc (.cells #[.int .u64 a2, .int .u64 b2, .int .u64 c2, .int .u64 d2] 24)).alloc (.cells #[.int .u64 p, .int .u64 q] 25)
  have hY := (Blk.new_at (w := w.alloc (.cells #[.int .u64 a, .int .u64 b, .int .u64 c, .int .u64 d] 24)) (k := w.heap.size + 1) (by simp) #[.int .u64 a2, .int .u64 b2, .int .u64 c2, .int .u64 d2] 24).alloc (.cells #[.int .u64 p, .int .u64 q] 25)
  have hZ := Blk.new_at (w := (w.alloc (.cells #[.int .u64 a, .int .u64 b, .int .u64 c, .int .u64 d] 24)).alloc (.cells #[.int .u64 a2, .int .u64 b2, .int .u64 c2, .int .u64 d2] 24)) (k := w.heap.size + 1 + 1) (by simp) #[.int .u64 p, .int .u64 q] 25
  have f0 := (((Fr.refl [] w).alloc (.cells #[.int .u64 a, .int .u64 b, .int .u64 c, .int .u64 d] 24)).alloc (.cells #[.int .u64 a2, .int .u64 b2, .int .u64 c2, .int .u64 d2] 24)).alloc (.cells #[.int .u64 p, .int .u64 q] 25)
  obtain ⟨z0, hz0⟩ : ∃ z, z = w.heap.size := ⟨_, rfl⟩
  rw [← hz0] at hX hY hZ
  have H := Lib.hid (And.intro f0 (And.intro hX (And.intro hY hZ)))
  clear f0 hX hY hZ
  go_enter Try.func3, Try.ntmps3
  go_upto_region 1 with fail
  simp only [← hz0]
  clear hz0
  generalize (World.alloc (World.alloc (World.alloc w _) _) _) = w0v at *
  obtain ⟨w0, hw0⟩ : ∃ w0, w0 = w0v := ⟨_, rfl⟩
  rw [← hw0] at H
  rw [← hw0]
  clear hw0
  have x0 := (H.out.2.1).at 0 (v := .int .u64 a) rfl
  have x1 := (H.out.2.1).at 1 (v := .int .u64 b) rfl
  have x2 := (H.out.2.1).at 2 (v := .int .u64 c) rfl
  have x3 := (H.out.2.1).at 3 (v := .int .u64 d) rfl
  go_wp2_with fail
  (with_reducible refine (similar_any _ _ _ _ _).mono ?_)
  rintro e w1 ⟨rfl, f1⟩
  have H1 := Lib.hid (And.intro ((H.out.1.trans f1 (by simp)).alloc (.cells #[.complex .f64 a b, .complex .f64 c d] 28)) (And.intro ((f1.blk H.out.2.2.1 (by simp)).alloc (.cells #[.complex .f64 a b, .complex .f64 c d] 28)) (And.intro ((f1.blk H.out.2.2.2 (by simp)).alloc (.cells #[.complex .f64 a b, .complex .f64 c d] 28)) (Blk.new w1 #[.complex .f64 a b, .complex .f64 c d] 28))))
  clear H f1
  have y0 := (H1.out.2.1).at 0 (v := .int .u64 a2) rfl
  have y1 := (H1.out.2.1).at 1 (v := .int .u64 b2) rfl
  have y2 := (H1.out.2.1).at 2 (v := .int .u64 c2) rfl
  have y3 := (H1.out.2.1).at 3 (v := .int .u64 d2) rfl
  go_wp2_with fail
  (with_reducible refine (similar_any _ _ _ _ _).mono ?_)
  rintro e w2 ⟨rfl, f2⟩
  have H2 := Lib.hid (And.intro ((H1.out.1.trans f2 (by simp)).alloc (.cells #[.complex .f64 a2 b2, .complex .f64 c2 d2] 28)) (And.intro ((f2.blk H1.out.2.2.1 (by simp)).alloc (.cells #[.complex .f64 a2 b2, .complex .f64 c2 d2] 28)) (And.intro ((f2.blk H1.out.2.2.2 (by simp)).alloc (.cells #[.complex .f64 a2 b2, .complex .f64 c2 d2] 28)) (Blk.new w2 #[.complex .f64 a2 b2, .complex .f64 c2 d2] 28))))
  clear H1 f2
  have p0 := (H2.out.2.1).at 0 (v := .int .u64 p) rfl
  have p1 := (H2.out.2.1).at 1 (v := .int .u64 q) rfl
  have m0 := (H2.out.2.2.1).at 0 (v := .complex .f64 a b) rfl
  have m1 := (H2.out.2.2.1).at 1 (v := .complex .f64 c d) rfl
  go_wp2_with (go_at_call 10; refine (of_any _ _ _).mono ?_; rintro e w9 ⟨rfl, rfl⟩)
  (with_reducible refine (numMap_any _ _ _ _ _).mono ?_)
  rintro e w3 ⟨rfl, f3⟩
  have H3 := Lib.hid (And.intro ((H2.out.1.trans f3 (by simp)).alloc (.cells #[.float .f64 a, .float .f64 b, .float .f64 c, .float .f64 d] 35)) (And.intro ((f3.blk H2.out.2.2.1 (by simp)).alloc (.cells #[.float .f64 a, .float .f64 b, .float .f64 c, .float .f64 d] 35)) (And.intro ((f3.blk H2.out.2.2.2 (by simp)).alloc (.cells #[.float .f64 a, .float .f64 b, .float .f64 c, .float .f64 d] 35)) (Blk.new w3 #[.float .f64 a, .float .f64 b, .float .f64 c, .float .f64 d] 35))))
  clear H2 f3
  have n0 := (H3.out.2.2.1).at 0 (v := .complex .f64 a2 b2) rfl
  have n1 := (H3.out.2.2.1).at 1 (v := .complex .f64 c2 d2) rfl
  go_wp2_with fail
  (with_reducible refine (numMap_any _ _ _ _ _).mono ?_)
  rintro e w4 ⟨rfl, f4⟩
  have H4 := Lib.hid (And.intro ((H3.out.1.trans f4 (by simp)).alloc (.cells #[.float .f64 a2, .float .f64 b2, .float .f64 c2, .float .f64 d2] 35)) (And.intro ((f4.blk H3.out.2.1 (by simp)).alloc (.cells #[.float .f64 a2, .float .f64 b2, .float .f64 c2, .float .f64 d2] 35)) (And.intro ((f4.blk H3.out.2.2.1 (by simp)).alloc (.cells #[.float .f64 a2, .float .f64 b2, .float .f64 c2, .float .f64 d2] 35)) (And.intro ((f4.blk H3.out.2.2.2 (by simp)).alloc (.cells #[.float .f64 a2, .float .f64 b2, .float .f64 c2, .float .f64 d2] 35)) (Blk.new w4 #[.float .f64 a2, .float .f64 b2, .float .f64 c2, .float .f64 d2] 35)))))
  clear H3 f4
  go_upto_region 6 with fail
  generalize w1.heap.size = z7 at *
  generalize w2.heap.size = z8 at *
  generalize w3.heap.size = z10 at *
  obtain ⟨z11, hz11⟩ : ∃ z, z = w4.heap.size := ⟨_, rfl⟩
  rw [← hz11] at H4
  simp only [← hz11]
  clear hz11
  generalize World.alloc w4 _ = w5v at *
  obtain ⟨w5, hw5⟩ : ∃ w5, w5 = w5v := ⟨_, rfl⟩
  rw [← hw5] at H4
  rw [← hw5]
  clear hw5
  have SS := Lib.hid (fun (w' : World) (f : Fr [] w5 w') => show w'.cell? ⟨z7, 0, none⟩ = some (.complex .f64 a b) ∧ w'.cell? ⟨z7, 1, none⟩ = some (.complex .f64 c d) ∧ w'.cell? ⟨z8, 0, none⟩ = some (.complex .f64 a2 b2) ∧ w'.cell? ⟨z8, 1, none⟩ = some (.complex .f64 c2 d2) ∧ w'.cell? ⟨z10, 0, none⟩ = some (.float .f64 a) ∧ w'.cell? ⟨z10, 1, none⟩ = some (.float .f64 b) ∧ w'.cell? ⟨z10, 2, none⟩ = some (.float .f64 c) ∧ w'.cell? ⟨z10, 3, none⟩ = some (.float .f64 d) ∧ w'.cell? ⟨z11, 0, none⟩ = some (.float .f64 a2) ∧ w'.cell? ⟨z11, 1, none⟩ = some (.float .f64 b2) ∧ w'.cell? ⟨z11, 2, none⟩ = some (.float .f64 c2) ∧ w'.cell? ⟨z11, 3, none⟩ = some (.float .f64 d2) from ⟨(f.blk H4.out.2.1 (by simp)).at 0 rfl, (f.blk H4.out.2.1 (by simp)).at 1 rfl, (f.blk H4.out.2.2.1 (by simp)).at 0 rfl, (f.blk H4.out.2.2.1 (by simp)).at 1 rfl, (f.blk H4.out.2.2.2.1 (by simp)).at 0 rfl, (f.blk H4.out.2.2.2.1 (by simp)).at 1 rfl, (f.blk H4.out.2.2.2.1 (by simp)).at 2 rfl, (f.blk H4.out.2.2.2.1 (by simp)).at 3 rfl, (f.blk H4.out.2.2.2.2 (by simp)).at 0 rfl, (f.blk H4.out.2.2.2.2 (by simp)).at 1 rfl, (f.blk H4.out.2.2.2.2 (by simp)).at 2 rfl, (f.blk H4.out.2.2.2.2 (by simp)).at 3 rfl⟩)
  obtain ⟨s0, s1, s2, s3, s4, s5, s6, s7, s8, s9, s10, s11⟩ := SS.out _ (Fr.refl _ w5)
  go_cut [48] (fun s48 wx => s48 = .bool false ∧ Fr [] w5 wx)
  case first =>
    go_region_held3 (fun w' => w'.cell? ⟨z7, 0, none⟩ = some (.complex .f64 a b) ∧ w'.cell? ⟨z7, 1, none⟩ = some (.complex .f64 c d) ∧ w'.cell? ⟨z8, 0, none⟩ = some (.complex .f64 a2 b2) ∧ w'.cell? ⟨z8, 1, none⟩ = some (.complex .f64 c2 d2) ∧ w'.cell? ⟨z10, 0, none⟩ = some (.float .f64 a) ∧ w'.cell? ⟨z10, 1, none⟩ = some (.float .f64 b) ∧ w'.cell? ⟨z10, 2, none⟩ = some (.float .f64 c) ∧ w'.cell? ⟨z10, 3, none⟩ = some (.float .f64 d) ∧ w'.cell? ⟨z11, 0, none⟩ = some (.float .f64 a2) ∧ w'.cell? ⟨z11, 1, none⟩ = some (.float .f64 b2) ∧ w'.cell? ⟨z11, 2, none⟩ = some (.float .f64 c2) ∧ w'.cell? ⟨z11, 3, none⟩ = some (.float .f64 d2)) (first | (refine SS.out _ ?_; repeat (first | exact Ga | exact Gn | exact Gr | exact Gk | exact Gt | exact Gu | exact Gm | exact Fr.refl _ _ | refine Fr.drew ?_ | refine Fr.drewN ?_ _)))
      (first
        | (go_at_call 13; refine (apply_any _ _ _ _ _ _ _).mono ?_; rintro e wa ⟨r, i, rfl, ha, fa⟩; have Ga : Fr [] w5 wa := (by refine Fr.trans ?_ fa (by simp); repeat (first | exact Gn | exact Gr | exact Gk | exact Gt | exact Gu | exact Gm | exact Fr.refl _ _ | refine Fr.drew ?_ | refine Fr.drewN ?_ _)); clear fa; have HA := Lib.hid ha; clear ha)
        | (go_at_call 15; refine (num_any _ _ _).mono ?_; rintro e wn ⟨rfl, fn⟩; have Gn : Fr [] w5 wn := (by refine Fr.trans ?_ fn (by simp); repeat (first | exact Ga | exact Gr | exact Gk | exact Gt | exact Gu | exact Gm | exact Fr.refl _ _ | refine Fr.drew ?_ | refine Fr.drewN ?_ _)); clear fn)
        | (go_at_call 14; refine (refApply_any _ _ _ _ _ _ _).mono ?_; rintro e wr ⟨r2, i2, rfl, hr, fr⟩; have Gr : Fr [] w5 wr := (by refine Fr.trans ?_ fr (by simp); repeat (first | exact Ga | exact Gn | exact Gk | exact Gt | exact Gu | exact Gm | exact Fr.refl _ _ | refine Fr.drew ?_ | refine Fr.drewN ?_ _)); clear fr; have HR := Lib.hid hr; clear hr)
        | (go_at_call 12; refine (lawAlike_true _ (ApplyR.fe HA.out HR.out)).mono ?_; rintro e wk ⟨rfl, fk⟩; have Gk : Fr [] w5 wk := (by refine Fr.trans ?_ fk (by simp); repeat (first | exact Ga | exact Gn | exact Gr | exact Gt | exact Gu | exact Gm | exact Fr.refl _ _ | refine Fr.drew ?_ | refine Fr.drewN ?_ _)); clear fk)
        | (go_at_call 17; refine (then_any _ _ _ _ _ _ _ _ _).mono ?_; rintro e wt ⟨x, y, u, v, rfl, ht, ft⟩; have Gt : Fr [] w5 wt := (by refine Fr.trans ?_ ft (by simp); repeat (first | exact Ga | exact Gn | exact Gr | exact Gk | exact Gu | exact Gm | exact Fr.refl _ _ | refine Fr.drew ?_ | refine Fr.drewN ?_ _)); clear ft; have HT := Lib.hid ht; clear ht)
        | (go_at_call 18; refine (refThen_any _ _ _ _ _ _ _ _ _).mono ?_; rintro e wu ⟨x', y', u', v', rfl, hu, fu⟩; have Gu : Fr [] w5 wu := (by refine Fr.trans ?_ fu (by simp); repeat (first | exact Ga | exact Gn | exact Gr | exact Gk | exact Gt | exact Gm | exact Fr.refl _ _ | refine Fr.drew ?_ | refine Fr.drewN ?_ _)); clear fu; have HU := Lib.hid hu; clear hu)
        | (go_at_call 16; refine (alikeMap_true _ (ThenR.fe HT.out HU.out)).mono ?_; rintro e wm ⟨rfl, fm⟩; have Gm : Fr [] w5 wm := (by refine Fr.trans ?_ fm (by simp); repeat (first | exact Ga | exact Gn | exact Gr | exact Gk | exact Gt | exact Gu | exact Fr.refl _ _ | refine Fr.drew ?_ | refine Fr.drewN ?_ _)); clear fm))
    all_goals
      simp only [Exit.then]
      go_wp2_with fail
      go_meet
      case rel => exact ⟨rfl, by repeat (first | exact Gm | refine Fr.drew ?_ | refine Fr.drewN ?_ _)⟩
  case rest =>
    obtain ⟨rfl, g5⟩ := hcut
    obtain ⟨s0, s1, s2, s3, s4, s5, s6, s7, s8, s9, s10, s11⟩ := SS.out _ g5
    have G5 := Lib.hid g5
    clear g5
    go_wp2_with fail
    (with_reducible refine (NB.out _).mono ?_)
    rintro e w6 ⟨er, bx, bz, bu, bv, rfl, hk, f6⟩
    have HK := Lib.hid hk
    have G6 := Lib.hid ((G5.out.trans f6 (by simp)).alloc (.cells #[.complex .f64 bx bz, .complex .f64 bu bv] 28))
    have B6 := Lib.hid (Blk.new w6 #[.complex .f64 bx bz, .complex .f64 bu bv] 28)
    clear hk f6
    obtain ⟨s0, s1, s2, s3, s4, s5, s6, s7, s8, s9, s10, s11⟩ := SS.out _ G6.out
    go_wp2_with fail
    (with_reducible refine (refBack_uni _ _ _ _ _).mono ?_)
    rintro e w7 ⟨er2, bx2, bz2, bu2, bv2, rfl, hk2, f7⟩
    obtain ⟨rfl, hfe⟩ := HK.out.same hk2
    have HE := Lib.hid hfe
    have G7 := Lib.hid ((G6.out.trans f7 (by simp)).alloc (.cells #[.float .f64 bx2, .float .f64 bz2, .float .f64 bu2, .float .f64 bv2] 35))
    have B66 := (f7.blk B6.out (by simp)).alloc (.cells #[.float .f64 bx2, .float .f64 bz2, .float .f64 bu2, .float .f64 bv2] 35)
    have B7 := Blk.new w7 #[.float .f64 bx2, .float .f64 bz2, .float .f64 bu2, .float .f64 bv2] 35
    have k0 := B66.at 0 (v := .complex .f64 bx bz) rfl
    have k1 := B66.at 1 (v := .complex .f64 bu bv) rfl
    have l0 := B7.at 0 (v := .float .f64 bx2) rfl
    have l1 := B7.at 1 (v := .float .f64 bz2) rfl
    have l2 := B7.at 2 (v := .float .f64 bu2) rfl
    have l3 := B7.at 3 (v := .float .f64 bv2) rfl
    clear hk2 f7 B66 B7 hfe
    go_wp2_with fail
    (with_reducible refine (alikeMap_true _ HE.out).mono ?_)
    rintro e w8 ⟨rfl, f8⟩
    have G8 := Lib.hid (G7.out.trans f8 (by simp))
    clear f8
    go_wp2_with fail
    (with_reducible refine (unit_any _).mono ?_)
    rintro e w9 ⟨rfl, f9⟩
    have G9 := Lib.hid ((G8.out.trans f9 (by simp)).alloc (.cells #[.complex .f64 4607182418800017408 0, .complex .f64 0 0] 28))
    have B9 := Lib.hid (Blk.new w9 #[.complex .f64 4607182418800017408 0, .complex .f64 0 0] 28)
    clear f9
    go_upto_region 13 with fail
    obtain ⟨z16, hz16⟩ : ∃ z, z = w9.heap.size := ⟨_, rfl⟩
    rw [← hz16] at B9
    simp only [← hz16]
    clear hz16
    generalize World.alloc w9 _ = w10v at *
    obtain ⟨w10, hw10⟩ : ∃ w10, w10 = w10v := ⟨_, rfl⟩
    rw [← hw10] at G9 B9
    rw [← hw10]
    clear hw10
    have S2 := Lib.hid (fun (w' : World) (f : Fr [] w10 w') => show w'.cell? ⟨z7, 0, none⟩ = some (.complex .f64 a b) ∧ w'.cell? ⟨z7, 1, none⟩ = some (.complex .f64 c d) ∧ w'.cell? ⟨z8, 0, none⟩ = some (.complex .f64 a2 b2) ∧ w'.cell? ⟨z8, 1, none⟩ = some (.complex .f64 c2 d2) ∧ w'.cell? ⟨z10, 0, none⟩ = some (.float .f64 a) ∧ w'.cell? ⟨z10, 1, none⟩ = some (.float .f64 b) ∧ w'.cell? ⟨z10, 2, none⟩ = some (.float .f64 c) ∧ w'.cell? ⟨z10, 3, none⟩ = some (.float .f64 d) ∧ w'.cell? ⟨z11, 0, none⟩ = some (.float .f64 a2) ∧ w'.cell? ⟨z11, 1, none⟩ = some (.float .f64 b2) ∧ w'.cell? ⟨z11, 2, none⟩ = some (.float .f64 c2) ∧ w'.cell? ⟨z11, 3, none⟩ = some (.float .f64 d2) ∧ w'.cell? ⟨z16, 0, none⟩ = some (.complex .f64 4607182418800017408 0) ∧ w'.cell? ⟨z16, 1, none⟩ = some (.complex .f64 0 0) from ⟨((G9.out.trans f (by simp)).blk H4.out.2.1 (by simp)).at 0 rfl, ((G9.out.trans f (by simp)).blk H4.out.2.1 (by simp)).at 1 rfl, ((G9.out.trans f (by simp)).blk H4.out.2.2.1 (by simp)).at 0 rfl, ((G9.out.trans f (by simp)).blk H4.out.2.2.1 (by simp)).at 1 rfl, ((G9.out.trans f (by simp)).blk H4.out.2.2.2.1 (by simp)).at 0 rfl, ((G9.out.trans f (by simp)).blk H4.out.2.2.2.1 (by simp)).at 1 rfl, ((G9.out.trans f (by simp)).blk H4.out.2.2.2.1 (by simp)).at 2 rfl, ((G9.out.trans f (by simp)).blk H4.out.2.2.2.1 (by simp)).at 3 rfl, ((G9.out.trans f (by simp)).blk H4.out.2.2.2.2 (by simp)).at 0 rfl, ((G9.out.trans f (by simp)).blk H4.out.2.2.2.2 (by simp)).at 1 rfl, ((G9.out.trans f (by simp)).blk H4.out.2.2.2.2 (by simp)).at 2 rfl, ((G9.out.trans f (by simp)).blk H4.out.2.2.2.2 (by simp)).at 3 rfl, (f.blk B9.out (by simp)).at 0 rfl, (f.blk B9.out (by simp)).at 1 rfl⟩)
    obtain ⟨s0, s1, s2, s3, s4, s5, s6, s7, s8, s9, s10, s11, s12, s13⟩ := S2.out _ (Fr.refl _ w10)
    go_region_held3 (fun w' => w'.cell? ⟨z7, 0, none⟩ = some (.complex .f64 a b) ∧ w'.cell? ⟨z7, 1, none⟩ = some (.complex .f64 c d) ∧ w'.cell? ⟨z8, 0, none⟩ = some (.complex .f64 a2 b2) ∧ w'.cell? ⟨z8, 1, none⟩ = some (.complex .f64 c2 d2) ∧ w'.cell? ⟨z10, 0, none⟩ = some (.float .f64 a) ∧ w'.cell? ⟨z10, 1, none⟩ = some (.float .f64 b) ∧ w'.cell? ⟨z10, 2, none⟩ = some (.float .f64 c) ∧ w'.cell? ⟨z10, 3, none⟩ = some (.float .f64 d) ∧ w'.cell? ⟨z11, 0, none⟩ = some (.float .f64 a2) ∧ w'.cell? ⟨z11, 1, none⟩ = some (.float .f64 b2) ∧ w'.cell? ⟨z11, 2, none⟩ = some (.float .f64 c2) ∧ w'.cell? ⟨z11, 3, none⟩ = some (.float .f64 d2) ∧ w'.cell? ⟨z16, 0, none⟩ = some (.complex .f64 4607182418800017408 0) ∧ w'.cell? ⟨z16, 1, none⟩ = some (.complex .f64 0 0)) (first | (refine S2.out _ ?_; repeat (first | exact Ge | exact Gd | exact Gf | exact Gn | exact Gr | exact Gl | exact Fr.refl _ _ | refine Fr.drew ?_ | refine Fr.drewN ?_ _)))
      (first
        | (go_at_call 22; have _ := Gd; refine (same_self _ _ _ _ _).mono ?_; rintro e we ⟨rfl, fe⟩; have Ge : Fr [] w10 we := (by refine Fr.trans ?_ fe (by simp); repeat (first | exact Gd | exact Gf | exact Gn | exact Gr | exact Gl | exact Fr.refl _ _ | refine Fr.drew ?_ | refine Fr.drewN ?_ _)); clear fe)
        | (go_at_call 22; refine (same_any _ _ _ _ _ _ _ _ _).mono ?_; rintro e wd ⟨rfl, fd⟩; have Gd : Fr [] w10 wd := (by refine Fr.trans ?_ fd (by simp); repeat (first | exact Ge | exact Gf | exact Gn | exact Gr | exact Gl | exact Fr.refl _ _ | refine Fr.drew ?_ | refine Fr.drewN ?_ _)); clear fd)
        | (go_at_call 23; refine (alikeMapR_any _ _ _ _ _ _ _ _ _).mono ?_; rintro e wf ⟨rfl, ff⟩; have Gf : Fr [] w10 wf := (by refine Fr.trans ?_ ff (by simp); repeat (first | exact Ge | exact Gd | exact Gn | exact Gr | exact Gl | exact Fr.refl _ _ | refine Fr.drew ?_ | refine Fr.drewN ?_ _)); clear ff)
        | (go_at_call 24; refine (sector_any _ _ _).mono ?_; rintro e w9 ⟨rfl, rfl⟩)
        | (go_at_call 15; refine (num_any _ _ _).mono ?_; rintro e wn ⟨rfl, fn⟩; have Gn : Fr [] w10 wn := (by refine Fr.trans ?_ fn (by simp); repeat (first | exact Ge | exact Gd | exact Gf | exact Gr | exact Gl | exact Fr.refl _ _ | refine Fr.drew ?_ | refine Fr.drewN ?_ _)); clear fn)
        | (go_at_call 25; refine (refSector_any _ _ _).mono ?_; rintro e wr ⟨rfl, fr⟩; have Gr : Fr [] w10 wr := (by refine Fr.trans ?_ fr (by simp); repeat (first | exact Ge | exact Gd | exact Gf | exact Gn | exact Gl | exact Fr.refl _ _ | refine Fr.drew ?_ | refine Fr.drewN ?_ _)); clear fr)
        | (go_at_call 26; refine (lives_any _).mono ?_; rintro e wl ⟨rfl, fl⟩; have Gl : Fr [] w10 wl := (by refine Fr.trans ?_ fl (by simp); repeat (first | exact Ge | exact Gd | exact Gf | exact Gn | exact Gr | exact Fr.refl _ _ | refine Fr.drew ?_ | refine Fr.drewN ?_ _)); clear fl))
    all_goals
      simp only [Exit.then]
      go_wp2_with fail
      go_ret
      exact ⟨rfl, H4.out.1.trans (G9.out.trans (by repeat (first | exact Gl | refine Fr.drew ?_ | refine Fr.drewN ?_ _)) (by simp)) (by simp)⟩
end Go.Proofs.Ytkbcdfniocmamaa
