/-
  TurnQuarters: quarters and whole ways are undone exactly, and found again by two points side by side. For every input.
-/
import Derived.Test.YtkbcdfniocmamaaWho
import Derived.Test.YtkbcdfniocmamaaQuaB
namespace Go.Proofs.Ytkbcdfniocmamaa
open Go.RowKit Flo Go.ChangeShapes Go.WideShapes Go.ChangeAt
set_option linter.unusedVariables false

theorem fl_lt (n : Int) : fl n < 2 ^ 64 := by
  rw [fl_eq]
  unfold Ieee.Format.nearest
  simp only
  split
  · rw [word_def]; split <;> omega
  · rw [word_def, infRung_d]
    generalize hr : min _ (2047 * 2 ^ 52) = r
    have h1 : r ≤ 2047 * 2 ^ 52 := by rw [← hr]; exact Nat.min_le_right _ _
    split <;> omega
namespace quarters
def BackQ (x y c d : Nat) (w : World) (e : Ending) (w' : World) : Prop := ∃ u v s t, e = .returned (.tuple #[.agg #[.complex .f64 u v, .complex .f64 s t], .int .i64 0]) ∧ BK x y c d 0 u v s t ∧ Fr [] w w'
theorem back_q (w : World) {x y : Nat} {A B bx bb : Int} (h : Quar x y A B) (h1 : bx.natAbs ≤ 2 ^ 30) (h2 : bb.natAbs ≤ 2 ^ 30) : Calls Try.prog 19 #[.agg #[.complex .f64 x y, .complex .f64 (fl bx) (fl bb)]] w (BackQ x y (fl bx) (fl bb) w) := by
  refine (back_uni w x y (fl bx) (fl bb) h.lt.1 h.lt.2 (fl_lt _) (fl_lt _)).mono ?_
  rintro e w' ⟨er, u, v, s, t, rfl, hb, hf⟩
  obtain ⟨rfl, -⟩ := quar_back (k := 2 ^ 30) (by omega) h (Sm.fl h1 (by decide)) (Sm.fl h2 (by decide)) hb
  exact ⟨_, _, _, _, rfl, hb, hf⟩
def PlaceQ (A B bx bb m n : Int) (w : World) (e : Ending) (w' : World) : Prop := ∃ E X Y : Int, e = .returned (.tuple #[.agg #[.int .i32 X, .int .i32 Y], .int .i64 E]) ∧ (E = 0 → X = A * m - B * n + bx ∧ Y = A * n + B * m + bb ∧ OnL X ∧ OnL Y) ∧ Fr [] w w'
theorem place_q (w : World) {x y : Nat} {A B bx bb : Int} (h : Quar x y A B) (h1 : bx.natAbs ≤ 2 ^ 30) (h2 : bb.natAbs ≤ 2 ^ 30) {m n : Int} (hm : I32 m) (hn : I32 n) : Calls Try.prog 30 #[.agg #[.complex .f64 x y, .complex .f64 (fl bx) (fl bb)], .agg #[.int .i32 m, .int .i32 n]] w (PlaceQ A B bx bb m n w) := by
  refine (place_any w x y (fl bx) (fl bb) m n hm hn 0).mono ?_
  rintro e w' ⟨r, i, ha, rfl, hf⟩
  refine ⟨_, _, _, rfl, fun h0 => ?_, hf⟩
  unfold I32 at hm hn
  obtain ⟨e1, e2, e3, e4⟩ := quar_place (k := 2 ^ 30) (by omega) h (Sm.fl h1 (by decide)) (Sm.fl h2 (by decide)) (by omega) (by omega) ha h0
  exact ⟨e1, e2, by rw [e1]; exact e3, by rw [e2]; exact e4⟩
set_option maxRecDepth 100000 in
set_option maxHeartbeats 16000000 in
theorem walk (w : World) (kk bx bb px py far : Int) (up : Bool) (ibx : I32 bx) (ibb : I32 bb) (ipx : I32 px) (ipy : I32 py) (ifar : I32 far) :
    Calls Try.prog 5 #[.agg #[.int .i64 kk, .int .i32 bx, .int .i32 bb, .int .i32 px, .int .i32 py, .int .i32 far, .bool up]] w fun e w' => e = .returned (.bool true) ∧ Fr [] w w' := by
  have hB0 := (Blk.new_at (w := w) (k := w.heap.size + 0) (by simp) #[.int .i64 kk, .int .i32 bx, .int .i32 bb, .int .i32 px, .int .i32 py, .int .i32 far, .bool up] 66)
  have f0 := ((Fr.refl [] w).alloc (.cells #[.int .i64 kk, .int .i32 bx, .int .i32 bb, .int .i32 px, .int .i32 py, .int .i32 far, .bool up] 66))
  obtain ⟨z0, hz0⟩ : ∃ z, z = w.heap.size := ⟨_, rfl⟩
  rw [show w.heap.size + 0 = z0 by omega] at hB0
  have HZ := Lib.hid (show w.heap.size ≤ z0 from by omega)
  have HF := Lib.hid f0
  have HB0 := Lib.hid hB0
  clear f0 hB0
  have HI := Lib.hid (And.intro ipx (And.intro ipy ifar))
  clear ibx ibb ipx ipy ifar
  go_enter Try.func5, Try.ntmps5
  go_upto_region 1 with fail
  simp only [← hz0]
  clear hz0
  generalize (World.alloc w _) = w0v at *
  obtain ⟨w0, hw0⟩ : ∃ w0, w0 = w0v := ⟨_, rfl⟩
  rw [← hw0] at HB0
  rw [← hw0] at HF
  rw [← hw0]
  clear hw0
  have SS := Lib.hid (fun (W : World) (fq : Fr [] w0 W) => show W.cell? ⟨z0, 0, none⟩ = some (.int .i64 kk) ∧ W.cell? ⟨z0, 1, none⟩ = some (.int .i32 bx) ∧ W.cell? ⟨z0, 2, none⟩ = some (.int .i32 bb) ∧ W.cell? ⟨z0, 3, none⟩ = some (.int .i32 px) ∧ W.cell? ⟨z0, 4, none⟩ = some (.int .i32 py) ∧ W.cell? ⟨z0, 5, none⟩ = some (.int .i32 far) ∧ W.cell? ⟨z0, 6, none⟩ = some (.bool up) from ⟨(fq.blk HB0.out (by simp <;> omega)).at 0 rfl, (fq.blk HB0.out (by simp <;> omega)).at 1 rfl, (fq.blk HB0.out (by simp <;> omega)).at 2 rfl, (fq.blk HB0.out (by simp <;> omega)).at 3 rfl, (fq.blk HB0.out (by simp <;> omega)).at 4 rfl, (fq.blk HB0.out (by simp <;> omega)).at 5 rfl, (fq.blk HB0.out (by simp <;> omega)).at 6 rfl⟩)
  obtain ⟨o0, o1, o2, o3, o4, o5, o6⟩ := SS.out _ (Fr.refl _ w0)
  have G1 := Lib.hid ((Fr.refl [] w0).alloc (.cells #[.int .i32 px, .int .i32 py] 64))
  have B1 := Lib.hid (Blk.new w0 #[.int .i32 px, .int .i32 py] 64)
  go_upto_region 4 with fail
  clear o0 o1 o2 o3 o4 o5 o6
  obtain ⟨z5, hz5⟩ : ∃ z, z = w0.heap.size := ⟨_, rfl⟩
  rw [← hz5] at B1
  simp only [← hz5]
  clear hz5
  generalize World.alloc w0 _ = w1v at *
  obtain ⟨w1, hw1⟩ : ∃ w1, w1 = w1v := ⟨_, rfl⟩
  rw [← hw1] at G1 B1
  rw [← hw1]
  clear hw1
  have S1 := Lib.hid (fun (W : World) (fq : Fr [] w1 W) => And.intro (SS.out W (G1.out.trans fq (by simp))) (show W.cell? ⟨z5, 0, none⟩ = some (.int .i32 px) ∧ W.cell? ⟨z5, 1, none⟩ = some (.int .i32 py) from ⟨(fq.blk B1.out (by simp)).at 0 rfl, (fq.blk B1.out (by simp)).at 1 rfl⟩))
  clear SS B1
  obtain ⟨⟨o0, o1, o2, o3, o4, o5, o6⟩, k0, k1⟩ := S1.out _ (Fr.refl _ w1)
  by_cases hin : bx ≤ 1073741824 ∧ -1073741824 ≤ bx ∧ bb ≤ 1073741824 ∧ -1073741824 ≤ bb ∧ px ≤ 1073741823 ∧ -1073741823 ≤ px ∧ py ≤ 1073741823 ∧ -1073741823 ≤ py
  rotate_left
  · have hout : 1073741824 < bx ∨ (bx ≤ 1073741824 ∧ bx < -1073741824) ∨ ((bx ≤ 1073741824 ∧ -1073741824 ≤ bx) ∧ 1073741824 < bb) ∨ ((bx ≤ 1073741824 ∧ -1073741824 ≤ bx) ∧ bb ≤ 1073741824 ∧ bb < -1073741824) ∨
        ((bx ≤ 1073741824 ∧ -1073741824 ≤ bx ∧ bb ≤ 1073741824 ∧ -1073741824 ≤ bb) ∧ 1073741823 < px) ∨ ((bx ≤ 1073741824 ∧ -1073741824 ≤ bx ∧ bb ≤ 1073741824 ∧ -1073741824 ≤ bb) ∧ px ≤ 1073741823 ∧ px < -1073741823) ∨
        ((bx ≤ 1073741824 ∧ -1073741824 ≤ bx ∧ bb ≤ 1073741824 ∧ -1073741824 ≤ bb ∧ px ≤ 1073741823 ∧ -1073741823 ≤ px) ∧ 1073741823 < py) ∨ ((bx ≤ 1073741824 ∧ -1073741824 ≤ bx ∧ bb ≤ 1073741824 ∧ -1073741824 ≤ bb ∧ px ≤ 1073741823 ∧ -1073741823 ≤ px) ∧ py ≤ 1073741823 ∧ py < -1073741823) := by omega
    clear hin
    rcases hout with h | ⟨h1, h⟩ | ⟨⟨h1, h2⟩, h⟩ | ⟨⟨h1, h2⟩, h3, h⟩ | ⟨⟨h1, h2, h3, h4⟩, h⟩ | ⟨⟨h1, h2, h3, h4⟩, h5, h⟩ | ⟨⟨h1, h2, h3, h4, h5, h6⟩, h⟩ | ⟨⟨h1, h2, h3, h4, h5, h6⟩, h7, h⟩
    all_goals
      go_wp2_with fail
      (with_reducible refine (lives_any _).mono ?_)
      rintro _ wl ⟨rfl, fl⟩
      go_wp2_with fail
      go_ret
      exact ⟨rfl, HF.out.trans (G1.out.trans fl (by simp)) (by simp)⟩
  obtain ⟨h1, h2, h3, h4, h5, h6, h7, h8⟩ := hin
  have HX : Hid (bx.natAbs ≤ 2 ^ 30) := Lib.hid (by omega)
  have HY : Hid (bb.natAbs ≤ 2 ^ 30) := Lib.hid (by omega)
  have HP := Lib.hid (show OnL px ∧ OnL py by unfold OnL; omega)
  go_upto_region 7 with fail
  clear h1 h2 h3 h4 h5 h6 h7 h8
  go_wp2_with fail
  (with_reducible refine (quarter_any _ _).mono ?_)
  rintro _ _ ⟨x, y, A, B, hq, rfl, rfl⟩
  have HQ := Lib.hid hq
  have G2 := Lib.hid ((Fr.refl [] w1).alloc (.cells #[.complex .f64 x y, .complex .f64 (fl bx) (fl bb)] 28))
  have B2 := Lib.hid (Blk.new w1 #[.complex .f64 x y, .complex .f64 (fl bx) (fl bb)] 28)
  clear hq o0 o1 o2 o3 o4 o5 o6 k0 k1
  obtain ⟨⟨o0, o1, o2, o3, o4, o5, o6⟩, k0, k1⟩ := S1.out _ G2.out
  go_wp2_with fail
  (with_reducible refine (back_q _ HQ.out HX.out HY.out).mono ?_)
  rintro _ w3 ⟨u, v, s, t, rfl, hb, f3⟩
  have HB := Lib.hid hb
  have G3 := Lib.hid ((G2.out.trans f3 (by simp)).alloc (.cells #[.complex .f64 u v, .complex .f64 s t] 28))
  have B3 := Lib.hid (And.intro ((f3.blk B2.out (by simp)).alloc (.cells #[.complex .f64 u v, .complex .f64 s t] 28)) (Blk.new w3 #[.complex .f64 u v, .complex .f64 s t] 28))
  clear hb f3 G2 B2 o0 o1 o2 o3 o4 o5 o6 k0 k1
  obtain ⟨⟨o0, o1, o2, o3, o4, o5, o6⟩, k0, k1⟩ := S1.out _ G3.out
  go_upto_region 10 with fail
  obtain ⟨z7, hz7⟩ : ∃ z, z = w1.heap.size := ⟨_, rfl⟩
  obtain ⟨z8, hz8⟩ : ∃ z, z = w3.heap.size := ⟨_, rfl⟩
  rw [← hz7, ← hz8] at B3
  simp only [← hz7, ← hz8]
  clear hz7 hz8 o0 o1 o2 o3 o4 o5 o6 k0 k1
  generalize World.alloc w3 _ = w4v at *
  obtain ⟨w4, hw4⟩ : ∃ w4, w4 = w4v := ⟨_, rfl⟩
  rw [← hw4] at G3 B3
  rw [← hw4]
  clear hw4
  have S4 := Lib.hid (fun (W : World) (fq : Fr [] w4 W) => show W.cell? ⟨z7, 0, none⟩ = some (.complex .f64 x y) ∧ W.cell? ⟨z7, 1, none⟩ = some (.complex .f64 (fl bx) (fl bb)) ∧ W.cell? ⟨z8, 0, none⟩ = some (.complex .f64 u v) ∧ W.cell? ⟨z8, 1, none⟩ = some (.complex .f64 s t) from ⟨(fq.blk B3.out.1 (by simp)).at 0 rfl, (fq.blk B3.out.1 (by simp)).at 1 rfl, (fq.blk B3.out.2 (by simp)).at 0 rfl, (fq.blk B3.out.2 (by simp)).at 1 rfl⟩)
  obtain ⟨s0, s1, s2, s3⟩ := S4.out _ (Fr.refl _ w4)
  go_cut [92] (fun s92 wx => s92 = .bool false ∧ Fr [] w4 wx)
  case first =>
    go_region_held3 (fun W => W.cell? ⟨z7, 0, none⟩ = some (.complex .f64 x y) ∧ W.cell? ⟨z7, 1, none⟩ = some (.complex .f64 (fl bx) (fl bb)) ∧ W.cell? ⟨z8, 0, none⟩ = some (.complex .f64 u v) ∧ W.cell? ⟨z8, 1, none⟩ = some (.complex .f64 s t)) (first | (refine S4.out _ ?_; repeat (first | exact Fb | exact Fa | exact Fr.refl _ _ | refine Fr.drew ?_ | refine Fr.drewN ?_ _)))
      (first
        | (go_at_call_of 13 (Value.agg #[Value.complex FloatKind.f64 x y, Value.complex FloatKind.f64 (fl bx) (fl bb)]); refine (apply_any _ _ _ _ _ _ _).mono ?_; rintro _ wa ⟨r1, i1, rfl, ha, fa⟩; have Fa : Fr [] w4 wa := (by refine Fr.trans ?_ fa (by simp); repeat (first | exact Fb | exact Fr.refl _ _ | refine Fr.drew ?_ | refine Fr.drewN ?_ _)); have HA := Lib.hid ha; clear ha fa)
        | (go_at_call 13; refine (apply_any _ _ _ _ _ _ _).mono ?_; rintro _ wb ⟨r2, i2, rfl, hb, fb⟩; have Fb : Fr [] w4 wb := (by refine Fr.trans ?_ fb (by simp); repeat (first | exact Fa | exact Fr.refl _ _ | refine Fr.drew ?_ | refine Fr.drewN ?_ _)); obtain ⟨j1, j2⟩ := quar_undone (k := 2 ^ 30) (by omega) HQ.out (Sm.fl HX.out (by decide)) (Sm.fl HY.out (by decide)) HB.out (Sm.fl (by have := HP.out.1; unfold OnL at this; omega) (by decide)) (Sm.fl (by have := HP.out.2; unfold OnL at this; omega) (by decide)) HA.out hb; clear hb fb))
    all_goals
      simp only [Exit.then]
      go_wp2_with fail
      go_meet
      case rel => exact ⟨by first | rfl | (rw [j1, j2]; rfl), by repeat (first | exact Fb | refine Fr.drew ?_ | refine Fr.drewN ?_ _)⟩
  case rest =>
    obtain ⟨rfl, g4⟩ := hcut
    have G4 := Lib.hid (G3.out.trans g4 (by simp))
    have B4 := Lib.hid (g4.blk B3.out.1 (by simp))
    clear g4 S4 B3 G3 HB
    obtain ⟨⟨o0, o1, o2, o3, o4, o5, o6⟩, k0, k1⟩ := S1.out _ G4.out
    have G5 := Lib.hid (G4.out.alloc (.cells #[.int .i32 px, .int .i32 py] 64))
    have B5 := Lib.hid (And.intro (B4.out.alloc (.cells #[.int .i32 px, .int .i32 py] 64)) (Blk.new wc #[.int .i32 px, .int .i32 py] 64))
    have HL0 := Lib.hid G4.out.size
    clear G4 B4
    go_upto_region 13 with fail
    obtain ⟨z11, hz11⟩ : ∃ z, z = wc.heap.size := ⟨_, rfl⟩
    have HL := Lib.hid (show w1.heap.size ≤ z11 by rw [hz11]; exact HL0.out)
    rw [← hz11] at B5
    simp only [← hz11]
    clear HL0
    clear hz11 o0 o1 o2 o3 o4 o5 o6 k0 k1
    generalize World.alloc wc _ = w5v at *
    obtain ⟨w5, hw5⟩ : ∃ w5, w5 = w5v := ⟨_, rfl⟩
    rw [← hw5] at G5 B5
    rw [← hw5]
    clear hw5
    obtain ⟨⟨o0, o1, o2, o3, o4, o5, o6⟩, k0, k1⟩ := S1.out _ G5.out
    have HN := Lib.hid (And.intro HL.out (show z7 ≠ z11 from fun h => absurd ((h ▸ B5.out.1 : Blk w5 z11 _ 28).inj B5.out.2).2 (by decide)))
    clear HL
    have q0 := B5.out.2.at 0 (v := .int .i32 px) rfl
    have q1 := B5.out.2.at 1 (v := .int .i32 py) rfl
    have q2 := B5.out.2.free 0
    have q3 := B5.out.2.free 1
    obtain ⟨qx, hqx⟩ : ∃ q, q = if up then px else far := ⟨_, rfl⟩
    obtain ⟨qy, hqy⟩ : ∃ q, q = if up then far else py := ⟨_, rfl⟩
    have HQX := Lib.hid hqx
    have HQY := Lib.hid hqy
    clear hqx hqy
    go_upto_if 95 with fail
    go_cut [11] (fun s11 wx => s11 = .pointer (some ⟨z11, 0, none⟩) ∧ Blk wx z11 #[.int .i32 qx, .int .i32 qy] 64 ∧ Fr [z11] w5 wx)
    case first =>
      cases up
      all_goals
        go_wp2_with fail
        go_meet
        case rel =>
          refine ⟨rfl, ?_, Fr.setCell (Fr.refl _ _) _ _ (.inl (by simp))⟩
          rw [HQX.out, HQY.out]
          first | exact B5.out.2.set 1 _ | exact B5.out.2.set 0 _
    case rest =>
      obtain ⟨rfl, hb6, g6⟩ := hcut
      have G6 := Lib.hid (G5.out.trans g6 (by simp; exact HN.out.1))
      have B6 := Lib.hid (And.intro (g6.blk B5.out.1 (by simp; exact HN.out.2)) hb6)
      have HI2 := Lib.hid (show I32 qx ∧ I32 qy by rw [HQX.out, HQY.out]; cases up; exact ⟨HI.out.2.2, HI.out.2.1⟩; exact ⟨HI.out.1, HI.out.2.2⟩)
      clear g6 hb6 B5 G5 o0 o1 o2 o3 o4 o5 o6 k0 k1 q0 q1 q2 q3 s0 s1 s2 s3
      obtain ⟨⟨o0, o1, o2, o3, o4, o5, o6⟩, k0, k1⟩ := S1.out _ G6.out
      have m0 := B6.out.1.at 0 (v := .complex .f64 x y) rfl
      have m1 := B6.out.1.at 1 (v := .complex .f64 (fl bx) (fl bb)) rfl
      go_wp2_with fail
      (with_reducible refine (place_q _ HQ.out HX.out HY.out HI.out.1 HI.out.2.1).mono ?_)
      rintro _ w7 ⟨E1, X1, Y1, rfl, h1, f7⟩
      have H1 := Lib.hid h1
      have G7 := Lib.hid ((G6.out.trans f7 (by simp)).alloc (.cells #[.int .i32 X1, .int .i32 Y1] 64))
      have B7 := Lib.hid (And.intro ((f7.blk B6.out.1 (by simp)).alloc (.cells #[.int .i32 X1, .int .i32 Y1] 64)) (And.intro ((f7.blk B6.out.2 (by simp)).alloc (.cells #[.int .i32 X1, .int .i32 Y1] 64)) (Blk.new w7 #[.int .i32 X1, .int .i32 Y1] 64)))
      clear h1 f7 B6 G6 m0 m1 o0 o1 o2 o3 o4 o5 o6 k0 k1
      obtain ⟨⟨o0, o1, o2, o3, o4, o5, o6⟩, k0, k1⟩ := S1.out _ G7.out
      have m0 := B7.out.1.at 0 (v := .complex .f64 x y) rfl
      have m1 := B7.out.1.at 1 (v := .complex .f64 (fl bx) (fl bb)) rfl
      have q0 := B7.out.2.1.at 0 (v := .int .i32 qx) rfl
      have q1 := B7.out.2.1.at 1 (v := .int .i32 qy) rfl
      go_wp2_with fail
      (with_reducible refine (place_q _ HQ.out HX.out HY.out HI2.out.1 HI2.out.2).mono ?_)
      rintro _ w8 ⟨E2, X2, Y2, rfl, h2, f8⟩
      have H2 := Lib.hid h2
      have G8 := Lib.hid ((G7.out.trans f8 (by simp)).alloc (.cells #[.int .i32 X2, .int .i32 Y2] 64))
      have B8 := Lib.hid (And.intro ((f8.blk B7.out.1 (by simp)).alloc (.cells #[.int .i32 X2, .int .i32 Y2] 64)) (And.intro ((f8.blk B7.out.2.1 (by simp)).alloc (.cells #[.int .i32 X2, .int .i32 Y2] 64)) (And.intro ((f8.blk B7.out.2.2 (by simp)).alloc (.cells #[.int .i32 X2, .int .i32 Y2] 64)) (Blk.new w8 #[.int .i32 X2, .int .i32 Y2] 64))))
      clear h2 f8 B7 G7 m0 m1 o0 o1 o2 o3 o4 o5 o6 k0 k1 q0 q1
      go_upto_region 18 with fail
      obtain ⟨z12, hz12⟩ : ∃ z, z = w7.heap.size := ⟨_, rfl⟩
      obtain ⟨z14, hz14⟩ : ∃ z, z = w8.heap.size := ⟨_, rfl⟩
      rw [← hz12, ← hz14] at B8
      simp only [← hz12, ← hz14]
      clear hz12 hz14
      generalize World.alloc w8 _ = w9v at *
      obtain ⟨w9, hw9⟩ : ∃ w9, w9 = w9v := ⟨_, rfl⟩
      rw [← hw9] at G8 B8
      rw [← hw9]
      clear hw9
      obtain ⟨⟨o0, o1, o2, o3, o4, o5, o6⟩, k0, k1⟩ := S1.out _ G8.out
      have m0 := B8.out.1.at 0 (v := .complex .f64 x y) rfl
      have m1 := B8.out.1.at 1 (v := .complex .f64 (fl bx) (fl bb)) rfl
      have q0 := B8.out.2.1.at 0 (v := .int .i32 qx) rfl
      have q1 := B8.out.2.1.at 1 (v := .int .i32 qy) rfl
      have r0 := B8.out.2.2.1.at 0 (v := .int .i32 X1) rfl
      have r1 := B8.out.2.2.1.at 1 (v := .int .i32 Y1) rfl
      have t0 := B8.out.2.2.2.at 0 (v := .int .i32 X2) rfl
      have t1 := B8.out.2.2.2.at 1 (v := .int .i32 Y2) rfl
      by_cases hgood : ¬ (qx = px ∧ qy = py) ∧ (far ≤ 1073741823 ∧ -1073741823 ≤ far) ∧ E1 = 0 ∧ E2 = 0
      rotate_left
      · have hbad : (qx = px ∧ qy = py) ∨ (¬ qx = px ∨ (qx = px ∧ ¬ qy = py)) ∧ (1073741823 < far ∨ (far ≤ 1073741823 ∧ far < -1073741823) ∨ ((far ≤ 1073741823 ∧ -1073741823 ≤ far) ∧ ¬ E1 = 0) ∨ ((far ≤ 1073741823 ∧ -1073741823 ≤ far) ∧ E1 = 0 ∧ ¬ E2 = 0)) := by omega
        clear hgood
        have HFin := Lib.hid (show Fr [] w w9 from HF.out.trans (G1.out.trans G8.out (by simp)) (by simp))
        clear HF G1 G8
        rcases hbad with ⟨rfl, rfl⟩ | ⟨h | ⟨rfl, h⟩, h2 | ⟨h1, h2⟩ | ⟨⟨h1, h2⟩, h3⟩ | ⟨⟨h1, h2⟩, h3, h4⟩⟩
        all_goals
          try (have h9 : (E1 != 0) = true := by simp [h3])
          try (have h9 : (E2 != 0) = true := by simp [h4])
          try (subst h3)
          go_wp2_with fail
          (with_reducible refine (lives_any _).mono ?_)
          rintro _ wl ⟨rfl, fl⟩
          go_wp2_with fail
          go_ret
          exact ⟨rfl, HFin.out.trans fl (by simp)⟩
      obtain ⟨hne, ⟨hf1, hf2⟩, he1, he2⟩ := hgood
      have HN1 := Lib.hid hne
      have HFA := Lib.hid (show OnL far from ⟨hf2, hf1⟩)
      have H3 := Lib.hid (H1.out he1)
      have H4 := Lib.hid (H2.out he2)
      have hne2 : ¬ qx = px ∨ (qx = px ∧ ¬ qy = py) := by omega
      subst he1 he2
      clear hne H1 H2
      have MF := Lib.hid (fun w => fit_any w px py qx qy X1 Y1 X2 Y2 HI.out.1 HI.out.2.1 HI2.out.1 HI2.out.2 (show I32 X1 from by have := H3.out.2.2.1; unfold OnL at this; unfold I32; omega) (show I32 Y1 from by have := H3.out.2.2.2; unfold OnL at this; unfold I32; omega) (show I32 X2 from by have := H4.out.2.2.1; unfold OnL at this; unfold I32; omega) (show I32 Y2 from by have := H4.out.2.2.2; unfold OnL at this; unfold I32; omega))
      have AG := Lib.hid (fun (er : Int) (u' v' s' t' : Nat) (hfit : FitOut px py qx qy X1 Y1 X2 Y2 er u' v' s' t') => quar_again (k := 2 ^ 30) HQ.out (Sm.fl HX.out (by decide)) (Sm.fl HY.out (by decide)) HP.out.1 HP.out.2 HFA.out up HQX.out HQY.out HN1.out H3.out.1 H3.out.2.1 H4.out.1 H4.out.2.1 H3.out.2.2.1 H3.out.2.2.2 hfit)
      have HFin := Lib.hid (show Fr [] w w9 from HF.out.trans (G1.out.trans G8.out (by simp)) (by simp))
      clear HF G1 G8 H3 H4
      rcases hne2 with h | ⟨h0, h⟩
      rotate_left
      subst h0
      all_goals
        go_wp2_with fail
        (with_reducible refine (MF.out _).mono ?_)
        rintro _ wf ⟨er, u', v', s', t', rfl, hfit, ff⟩
        obtain ⟨rfl, hmap⟩ := AG.out _ _ _ _ _ hfit
        have HMP := Lib.hid hmap
        have GF := Lib.hid ((HFin.out.trans ff (by simp)).alloc (.cells #[.complex .f64 u' v', .complex .f64 s' t'] 28))
        have bf := (ff.blk B8.out.1 (by simp)).alloc (.cells #[.complex .f64 u' v', .complex .f64 s' t'] 28)
        have bn := Blk.new wf #[.complex .f64 u' v', .complex .f64 s' t'] 28
        clear hfit ff hmap m0 m1
        have m0 := bf.at 0 (v := .complex .f64 x y) rfl
        have m1 := bf.at 1 (v := .complex .f64 (fl bx) (fl bb)) rfl
        have n0 := bn.at 0 (v := .complex .f64 u' v') rfl
        have n1 := bn.at 1 (v := .complex .f64 s' t') rfl
        clear bf bn
        go_wp2_with fail
        (with_reducible refine (same_true _ HMP.out).mono ?_)
        rintro _ wk ⟨rfl, fk⟩
        go_wp2_with fail
        (with_reducible refine (lives_any _).mono ?_)
        rintro _ wl ⟨rfl, fl⟩
        go_wp2_with fail
        go_ret
        exact ⟨rfl, (GF.out.trans fk (by simp)).trans fl (by simp)⟩
theorem cells66 : Try.prog.cellsOf 66 = 7 := by kernel_rfl
theorem seven_of {α : Type} {l : List α} (h : l.length = 7) : ∃ a b c d e f g, l = [a, b, c, d, e, f, g] := by
  match l, h with
  | [a, b, c, d, e, f, g], _ => exact ⟨a, b, c, d, e, f, g, rfl⟩
theorem six_of {α : Type} {l : List α} (h : l.length = 6) : ∃ a b c d e f, l = [a, b, c, d, e, f] := by
  match l, h with
  | [a, b, c, d, e, f], _ => exact ⟨a, b, c, d, e, f, rfl⟩
set_option maxRecDepth 100000 in
theorem read_quarter {w : World} {H : Type} {enc : TypeId × Value → H} {fuel : Nat} {cs : List Value} {x : DataW H × List MemPlace} (h : DataW.trod enc Try.prog w 0 (fun _ => true) true fuel 66 cs = some x) :
    ∃ (k bx bb px py far : Int) (up : Bool), cs = [.int .i64 k, .int .i32 bx, .int .i32 bb, .int .i32 px, .int .i32 py, .int .i32 far, .bool up] ∧ I32 bx ∧ I32 bb ∧ I32 px ∧ I32 py ∧ I32 far := by
  obtain ⟨xs, m, _, _, hl, hlen, hf⟩ := DataW.trod_struct Try.underlying66 h
  rw [cells66] at hl
  obtain ⟨a, b, c, d, e, f, g, rfl⟩ := seven_of hl
  obtain ⟨y0, y1, y2, y3, y4, y5, rfl⟩ := six_of hlen
  obtain ⟨k, h0, w0⟩ := read_int Try.underlying3 (hf 0 _ rfl)
  obtain ⟨bx, rfl, i1⟩ := whole.read_one (v := b) (hf 1 _ rfl)
  obtain ⟨bb, rfl, i2⟩ := whole.read_one (v := c) (hf 2 _ rfl)
  obtain ⟨px, py, h3, i3, j3⟩ := read_point (cs := [d, e]) (hf 3 _ rfl)
  obtain ⟨far, rfl, i4⟩ := whole.read_one (v := f) (hf 4 _ rfl)
  obtain ⟨up, h5⟩ := read_bool Try.underlying4 (hf 5 _ rfl)
  have q0 : [a] = [Value.int .i64 k] := h0
  have q5 : [g] = [Value.bool up] := h5
  cases q0; cases q5; cases h3
  exact ⟨k, bx, bb, px, py, far, up, rfl, i1, i2, i3, j3, i4⟩
set_option maxRecDepth 100000 in
theorem lifted (os : Os) (started : os.Started) (H : Type) (enc : TypeId × Value → H) :
    ReturnsInHanded {} Try.checked os 5 .any (Rows.turnQuartersSpec.pre6 enc Try.prog Try.f5 Rows.turnQuartersRow.domain false) (Rows.turnQuartersSpec.post enc Try.prog Try.f5 false true false false) := by
  refine returnsInHanded_of_change (C := Try.checked) own started (by kernel_rfl) Try.func5
    (ChangeSpec.witness6 (enc := enc) (C := Try.checked) false ⟨#[], #[.agg #[.int .i64 0, .int .i32 0, .int .i32 0, .int .i32 0, .int .i32 0, .int .i32 0, .bool false]], []⟩ 8 (by kernel_rfl) (by kernel_rfl) (by kernel_rfl) (by kernel_rfl)) ?_
  intro W base args ds gs before hval0 hW hcnd _
  have hval : ∀ (j : Nat) t v, Try.f5.params[j]? = some t → args[j]? = some v → Value.okWide Try.prog W .any base t v := hval0
  have hW' := hW
  obtain ⟨p, q, hA, hV, rfl, hfz, hnd⟩ := hW
  rw [Try.params5] at hA hval
  obtain ⟨v0, d0, hargs, rfl, h0⟩ := trodAll_one hA
  obtain ⟨rfl, rfl⟩ := trodVars_none hV
  have : args = #[v0] := by simpa using hargs
  subst this
  obtain ⟨fu0, l0, rfl, e0⟩ := open_agg Try.underlying66 (hval 0 66 v0 rfl rfl) h0
  obtain ⟨k, bx, bb, px, py, far, up, rfl, i1, i2, i3, i4, i5⟩ := read_quarter e0
  refine (walk W k bx bb px py far up i1 i2 i3 i4 i5).mono fun e W' ⟨he, hg⟩ => ?_
  exact ⟨_, he, law_post (tb := 4) laidOut (by
    rw [Try.params5]; intro t ht; simp at ht
    subst ht
    · exact ⟨by kernel_rfl, of_decide_eq_true (by kernel_rfl)⟩) rfl Try.underlying4 rfl hW' rfl hg⟩
theorem over : Rows.turnQuartersRow.holds Try.pinned (OpenSpec.ofChange Rows.turnQuartersSpec) :=
  OpenClaim.holds_of_wide 5 Try.f5 rfl rfl rfl rfl rfl rfl rfl ⟨rfl, rfl, rfl, rfl, rfl⟩ rfl rfl rfl rfl rfl (by kernel_rfl) Try.func5 (by kernel_rfl)
    (of_decide_eq_true (by kernel_rfl)) (by unfold Func.isWrapper; first | (rw [if_pos (by decide +kernel)]; kernel_rfl) | (rw [if_neg (by decide +kernel)]; exact ⟨rfl, rfl⟩))
    (fun os started H enc _ => lifted os started H enc)
/-- The statement TurnQuarters. -/
theorem proved : Rows.TurnQuartersSaid := over
#print axioms proved

end quarters
end Go.Proofs.Ytkbcdfniocmamaa
