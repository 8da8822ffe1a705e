/-
  Back of the document, by contract.
-/
import Derived.Test.YtkbcdfniocmamaaMapE
import Derived.Deep.CutBlock
import Derived.Deep.DeepCutAuto
namespace Go.Proofs.Ytkbcdfniocmamaa
open Go.RowKit Flo
set_option linter.unusedVariables false

def RBackOut (a b c d : Nat) (w : World) (e : Ending) (w' : World) : Prop :=
  ∃ q, SquareR a b q ∧ Fr [] w w' ∧ ((flatR a b c d q = true ∧ e = .returned (.tuple #[.agg #[.float .f64 0, .float .f64 0, .float .f64 0, .float .f64 0], .int .i64 80])) ∨
    (flatR a b c d q = false ∧ ∃ x y u v, BackR a b c d x y u v ∧ e = .returned (.tuple #[.agg #[.float .f64 x, .float .f64 y, .float .f64 u, .float .f64 v], .int .i64 0])))
theorem ret_map2 {fn : Func} {p t : Tmp} (h : fn.results = #[.cell p 35, .tmp t]) {W : World} {g : Nat} {u v x y z : Value} {tmps : Array Value} (hp : tmps.getD p undef = .pointer (some ⟨g, 0, none⟩)) (hu : tmps.getD t undef = z) (h0 : W.cell? ⟨g, 0, none⟩ = some u) (h1 : W.cell? ⟨g, 1, none⟩ = some v) (h8 : W.cell? ⟨g, 2, none⟩ = some x) (h9 : W.cell? ⟨g, 3, none⟩ = some y) :
    (results fn tmps).run Try.prog W = .ok (.tuple #[.agg #[u, v, x, y], z]) W := by
  have h3 := run_loadVar_mid (P := Try.prog) W g 0 35 [u, v, x, y] _ (fun j t hx => by
    match j, hx with
    | 0, hx => simp at hx; subst hx; exact h0
    | 1, hx => simp at hx; subst hx; exact h1
    | 2, hx => simp at hx; subst hx; exact h8
    | 3, hx => simp at hx; subst hx; exact h9
    | j + 4, hx => simp at hx) Try.underlying35 rfl info35
  rw [results_cell_tmp h, hp, hu]
  simp [asAddr, Result.andThen, h3]
set_option maxHeartbeats 4000000 in
theorem refBack_any (w : World) (a b c d : Nat) : Calls Try.prog 20 #[.agg #[.float .f64 a, .float .f64 b, .float .f64 c, .float .f64 d]] w (RBackOut a b c d w) := by
  have h0 := (Blk.new w #[.float .f64 a, .float .f64 b, .float .f64 c, .float .f64 d] 35).alloc (.cells #[.float .f64 0, .float .f64 0, .float .f64 0, .float .f64 0] 35)
  have h1 := Blk.new_at (w := w.alloc (.cells #[.float .f64 a, .float .f64 b, .float .f64 c, .float .f64 d] 35)) (k := w.heap.size + 1) (by simp) #[.float .f64 0, .float .f64 0, .float .f64 0, .float .f64 0] 35
  have f0 := ((Fr.refl [] w).alloc (.cells #[.float .f64 a, .float .f64 b, .float .f64 c, .float .f64 d] 35)).alloc (.cells #[.float .f64 0, .float .f64 0, .float .f64 0, .float .f64 0] 35)
  obtain ⟨z0, hz0⟩ : ∃ z, z = w.heap.size := ⟨_, rfl⟩
  rw [← hz0] at h0 h1
  have H := Lib.hid (And.intro h0 (And.intro h1 (And.intro f0 (show w.heap.size ≤ z0 by omega))))
  have N1 := Lib.hid (fun w => refFinite_any w a b)
  have N2 := Lib.hid (fun w => refFinite_any w c d)
  clear h0 h1 f0
  go_enter Try.func20, Try.ntmps20
  go_wp2_with fail
  simp only [← hz0]
  clear hz0
  generalize (World.alloc (World.alloc w _) _) = w0v at *
  obtain ⟨w0, hw0⟩ : ∃ w0, w0 = w0v := ⟨_, rfl⟩
  rw [← hw0] at H
  rw [← hw0]
  clear hw0
  have c0 := H.out.1.at 0 (v := .float .f64 a) rfl
  have c1 := H.out.1.at 1 (v := .float .f64 b) rfl
  go_wp2_with fail
  (with_reducible refine (refSquare_any _ _ _).mono ?_)
  rintro e w1 ⟨q, rfl, hq, f1⟩
  have HI := Lib.hid (fun w => refFin_any w q)
  have HQ := Lib.hid (And.intro hq (And.intro (H.out.2.2.1.trans f1 (by simp)) (And.intro (f1.blk H.out.1 (by simp)) (f1.blk H.out.2.1 (by simp)))))
  have EF := Lib.hid (show flatR a b c d q = (!(finB a && finB b) || (!(finB c && finB d) || (feq q 0 || !finB q))) from rfl)
  have HX := Lib.hid (fun (W : World) (f : Fr [] w1 W) => show (W.cell? ⟨z0, 0, none⟩ = some (.float .f64 a) ∧ W.cell? ⟨z0, 1, none⟩ = some (.float .f64 b) ∧ W.cell? ⟨z0, 2, none⟩ = some (.float .f64 c) ∧ W.cell? ⟨z0, 3, none⟩ = some (.float .f64 d)) ∧ (W.cell? ⟨z0 + 1, 0, none⟩ = some (.float .f64 0) ∧ W.cell? ⟨z0 + 1, 1, none⟩ = some (.float .f64 0) ∧ W.cell? ⟨z0 + 1, 2, none⟩ = some (.float .f64 0) ∧ W.cell? ⟨z0 + 1, 3, none⟩ = some (.float .f64 0)) ∧ W.frozen? ⟨z0 + 1, 0, none⟩ = false ∧ W.frozen? ⟨z0 + 1, 1, none⟩ = false ∧ W.frozen? ⟨z0 + 1, 2, none⟩ = false ∧ W.frozen? ⟨z0 + 1, 3, none⟩ = false from
    ⟨⟨(f.blk HQ.out.2.2.1 (by simp)).at 0 rfl, (f.blk HQ.out.2.2.1 (by simp)).at 1 rfl, (f.blk HQ.out.2.2.1 (by simp)).at 2 rfl, (f.blk HQ.out.2.2.1 (by simp)).at 3 rfl⟩, ⟨(f.blk HQ.out.2.2.2 (by simp)).at 0 rfl, (f.blk HQ.out.2.2.2 (by simp)).at 1 rfl, (f.blk HQ.out.2.2.2 (by simp)).at 2 rfl, (f.blk HQ.out.2.2.2 (by simp)).at 3 rfl⟩, (f.blk HQ.out.2.2.2 (by simp)).free 0, (f.blk HQ.out.2.2.2 (by simp)).free 1, (f.blk HQ.out.2.2.2 (by simp)).free 2, (f.blk HQ.out.2.2.2 (by simp)).free 3⟩)
  obtain ⟨⟨c0, c1, c2, c3⟩, ⟨k0, k1, k2, k3⟩, y0, y1, y2, y3⟩ := HX.out _ (Fr.refl [] w1)
  clear hq f1
  generalize hB1 : (finB a && finB b) = b1 at *
  generalize hB2 : (finB c && finB d) = b2 at *
  generalize hB4 : finB q = b4 at *
  clear hB1 hB2 hB4
  cases b1 with
  | false =>
    go_wp2_with (first
      | (go_at_call_of 51 (Value.agg #[Value.float FloatKind.f64 a, Value.float FloatKind.f64 b]); refine (N1.out _).mono ?_; rintro e w2 ⟨rfl, f2⟩; obtain ⟨⟨c0, c1, c2, c3⟩, ⟨k0, k1, k2, k3⟩, y0, y1, y2, y3⟩ := HX.out _ f2; have G2 := Lib.hid f2; clear f2)
      | (go_at_call_of 51 (Value.agg #[Value.float FloatKind.f64 c, Value.float FloatKind.f64 d]); refine (N2.out _).mono ?_; rintro e w3 ⟨rfl, f3⟩; have f3b := G2.out.trans f3 (by simp); obtain ⟨⟨c0, c1, c2, c3⟩, ⟨k0, k1, k2, k3⟩, y0, y1, y2, y3⟩ := HX.out _ f3b; have G3 := Lib.hid f3b; clear f3 f3b)
      | (go_at_call 52; refine (HI.out _).mono ?_; rintro e w9 ⟨rfl, rfl⟩))
    obtain ⟨q0, q1, q2, q3⟩ := lay4_cells (G2.out.blk HQ.out.2.2.2 (by simp)) (by simp) (.float .f64 0) (.float .f64 0) (.float .f64 0) (.float .f64 0)
    exact bodyPost_ret (ret_map2 rfl rfl rfl q0 q1 q2 q3) rfl ⟨q, HQ.out.1, Fr.lay4 (HQ.out.2.1.trans G2.out (by simp)) _ _ _ _ _ (.inr (by have := H.out.2.2.2; omega)), .inl ⟨by rw [EF.out]; rfl, rfl⟩⟩
  | true =>
    cases b2 with
    | false =>
      go_wp2_with (first
        | (go_at_call_of 51 (Value.agg #[Value.float FloatKind.f64 a, Value.float FloatKind.f64 b]); refine (N1.out _).mono ?_; rintro e w2 ⟨rfl, f2⟩; obtain ⟨⟨c0, c1, c2, c3⟩, ⟨k0, k1, k2, k3⟩, y0, y1, y2, y3⟩ := HX.out _ f2; have G2 := Lib.hid f2; clear f2)
        | (go_at_call_of 51 (Value.agg #[Value.float FloatKind.f64 c, Value.float FloatKind.f64 d]); refine (N2.out _).mono ?_; rintro e w3 ⟨rfl, f3⟩; have f3b := G2.out.trans f3 (by simp); obtain ⟨⟨c0, c1, c2, c3⟩, ⟨k0, k1, k2, k3⟩, y0, y1, y2, y3⟩ := HX.out _ f3b; have G3 := Lib.hid f3b; clear f3 f3b)
        | (go_at_call 52; refine (HI.out _).mono ?_; rintro e w9 ⟨rfl, rfl⟩))
      obtain ⟨q0, q1, q2, q3⟩ := lay4_cells (G3.out.blk HQ.out.2.2.2 (by simp)) (by simp) (.float .f64 0) (.float .f64 0) (.float .f64 0) (.float .f64 0)
      exact bodyPost_ret (ret_map2 rfl rfl rfl q0 q1 q2 q3) rfl ⟨q, HQ.out.1, Fr.lay4 (HQ.out.2.1.trans G3.out (by simp)) _ _ _ _ _ (.inr (by have := H.out.2.2.2; omega)), .inl ⟨by rw [EF.out]; rfl, rfl⟩⟩
    | true =>
      cases h3 : feq q 0 with
      | true =>
        have E3 := Lib.hid h3
        go_wp2_with (first
          | (go_at_call_of 51 (Value.agg #[Value.float FloatKind.f64 a, Value.float FloatKind.f64 b]); refine (N1.out _).mono ?_; rintro e w2 ⟨rfl, f2⟩; obtain ⟨⟨c0, c1, c2, c3⟩, ⟨k0, k1, k2, k3⟩, y0, y1, y2, y3⟩ := HX.out _ f2; have G2 := Lib.hid f2; clear f2)
          | (go_at_call_of 51 (Value.agg #[Value.float FloatKind.f64 c, Value.float FloatKind.f64 d]); refine (N2.out _).mono ?_; rintro e w3 ⟨rfl, f3⟩; have f3b := G2.out.trans f3 (by simp); obtain ⟨⟨c0, c1, c2, c3⟩, ⟨k0, k1, k2, k3⟩, y0, y1, y2, y3⟩ := HX.out _ f3b; have G3 := Lib.hid f3b; clear f3 f3b)
          | (go_at_call 52; refine (HI.out _).mono ?_; rintro e w9 ⟨rfl, rfl⟩))
        obtain ⟨q0, q1, q2, q3⟩ := lay4_cells (G3.out.blk HQ.out.2.2.2 (by simp)) (by simp) (.float .f64 0) (.float .f64 0) (.float .f64 0) (.float .f64 0)
        exact bodyPost_ret (ret_map2 rfl rfl rfl q0 q1 q2 q3) rfl ⟨q, HQ.out.1, Fr.lay4 (HQ.out.2.1.trans G3.out (by simp)) _ _ _ _ _ (.inr (by have := H.out.2.2.2; omega)), .inl ⟨by rw [EF.out, E3.out]; rfl, rfl⟩⟩
      | false =>
        have E3 := Lib.hid h3
        cases b4 with
        | false =>
          go_wp2_with (first
            | (go_at_call_of 51 (Value.agg #[Value.float FloatKind.f64 a, Value.float FloatKind.f64 b]); refine (N1.out _).mono ?_; rintro e w2 ⟨rfl, f2⟩; obtain ⟨⟨c0, c1, c2, c3⟩, ⟨k0, k1, k2, k3⟩, y0, y1, y2, y3⟩ := HX.out _ f2; have G2 := Lib.hid f2; clear f2)
            | (go_at_call_of 51 (Value.agg #[Value.float FloatKind.f64 c, Value.float FloatKind.f64 d]); refine (N2.out _).mono ?_; rintro e w3 ⟨rfl, f3⟩; have f3b := G2.out.trans f3 (by simp); obtain ⟨⟨c0, c1, c2, c3⟩, ⟨k0, k1, k2, k3⟩, y0, y1, y2, y3⟩ := HX.out _ f3b; have G3 := Lib.hid f3b; clear f3 f3b)
            | (go_at_call 52; refine (HI.out _).mono ?_; rintro e w9 ⟨rfl, rfl⟩))
          obtain ⟨q0, q1, q2, q3⟩ := lay4_cells (G3.out.blk HQ.out.2.2.2 (by simp)) (by simp) (.float .f64 0) (.float .f64 0) (.float .f64 0) (.float .f64 0)
          exact bodyPost_ret (ret_map2 rfl rfl rfl q0 q1 q2 q3) rfl ⟨q, HQ.out.1, Fr.lay4 (HQ.out.2.1.trans G3.out (by simp)) _ _ _ _ _ (.inr (by have := H.out.2.2.2; omega)), .inl ⟨by rw [EF.out, E3.out]; rfl, rfl⟩⟩
        | true =>
          go_upto_region 5 with (first
            | (go_at_call_of 51 (Value.agg #[Value.float FloatKind.f64 a, Value.float FloatKind.f64 b]); refine (N1.out _).mono ?_; rintro e w2 ⟨rfl, f2⟩; obtain ⟨⟨c0, c1, c2, c3⟩, ⟨k0, k1, k2, k3⟩, y0, y1, y2, y3⟩ := HX.out _ f2; have G2 := Lib.hid f2; clear f2)
            | (go_at_call_of 51 (Value.agg #[Value.float FloatKind.f64 c, Value.float FloatKind.f64 d]); refine (N2.out _).mono ?_; rintro e w3 ⟨rfl, f3⟩; have f3b := G2.out.trans f3 (by simp); obtain ⟨⟨c0, c1, c2, c3⟩, ⟨k0, k1, k2, k3⟩, y0, y1, y2, y3⟩ := HX.out _ f3b; have G3 := Lib.hid f3b; clear f3 f3b)
            | (go_at_call 52; refine (HI.out _).mono ?_; rintro e w9 ⟨rfl, rfl⟩)
            | (go_at_call 53; refine (refBy_any _ _ _ _ _).mono ?_; rintro e w4 ⟨x, y, rfl, h4, f4⟩; have G4 := Lib.hid (G3.out.trans f4 (by simp)); have H4 := Lib.hid h4; clear h4 f4))
          have hb4 := (Blk.new w4 #[.float .f64 x, .float .f64 y] 33)
          obtain ⟨z5, hz5⟩ : ∃ z, z = w4.heap.size := ⟨_, rfl⟩
          rw [← hz5] at hb4
          have G5 := Lib.hid (G4.out.alloc (.cells #[.float .f64 x, .float .f64 y] 33))
          have HB4 := Lib.hid hb4
          have HN := Lib.hid (show z0 + 1 < z5 ∧ z0 < z5 from ⟨by have := (G4.out.blk HQ.out.2.2.2 (by simp)).lt; omega, by have := (G4.out.blk HQ.out.2.2.1 (by simp)).lt; omega⟩)
          clear hb4
          simp only [← hz5]
          clear hz5
          generalize (World.alloc w4 _) = w5v at *
          obtain ⟨w5, hw5⟩ : ∃ w5, w5 = w5v := ⟨_, rfl⟩
          rw [← hw5] at HB4 G5
          rw [← hw5]
          clear hw5
          have SS := Lib.hid (fun (W : World) (f : Fr [z0 + 1] w5 W) => show W.cell? ⟨z5, 0, none⟩ = some (.float .f64 x) ∧ W.cell? ⟨z5, 1, none⟩ = some (.float .f64 y) ∧ W.cell? ⟨z0, 2, none⟩ = some (.float .f64 c) ∧ W.cell? ⟨z0, 3, none⟩ = some (.float .f64 d) from
            ⟨(f.blk HB4.out (by have := HN.out; simp; omega)).at 0 rfl, (f.blk HB4.out (by have := HN.out; simp; omega)).at 1 rfl, (f.blk (G5.out.blk HQ.out.2.2.1 (by simp)) (by simp)).at 2 rfl, (f.blk (G5.out.blk HQ.out.2.2.1 (by simp)) (by simp)).at 3 rfl⟩)
          have HY := Lib.hid (fun (W : World) (f : Fr [] w5 W) => show Blk W (z0 + 1) #[.float .f64 0, .float .f64 0, .float .f64 0, .float .f64 0] 35 from f.blk (G5.out.blk HQ.out.2.2.2 (by simp)) (by simp))
          clear c0 c1 c2 c3 k0 k1 k2 k3 y0 y1 y2 y3
          obtain ⟨c0, c1, c2, c3⟩ := SS.out _ (Fr.refl _ w5)
          go_region_held3 (fun w' => w'.cell? ⟨z5, 0, none⟩ = some (.float .f64 x) ∧ w'.cell? ⟨z5, 1, none⟩ = some (.float .f64 y) ∧ w'.cell? ⟨z0, 2, none⟩ = some (.float .f64 c) ∧ w'.cell? ⟨z0, 3, none⟩ = some (.float .f64 d)) (first | (refine SS.out _ ?_; repeat (first | exact F6 | exact F5 | exact Fr.refl _ _ | refine Fr.drew ?_ | refine Fr.drewN ?_ _ | refine Fr.alloc ?_ _ | refine Fr.setCell ?_ _ _ (.inl (by simp)))))
            (first
            | (go_at_call 44; refine (refTimes_any _ _ _ _ _).mono ?_; rintro e w6 ⟨p, r, rfl, h6, f6⟩; have G6 : Fr [] w5 w6 := (by refine Fr.trans ?_ f6 (by simp); repeat (first | exact Fr.refl _ _ | refine Fr.drew ?_ | refine Fr.drewN ?_ _)); have F5 : Fr [z0 + 1] w5 w6 := G6.mono (by simp); have H6 := Lib.hid h6; clear h6 f6)
            | (go_at_call 54; refine (refMinus_any _ _ _ _ _).mono ?_; rintro e w7 ⟨u, v, rfl, h7, f7⟩; have G7 : Fr [] w5 w7 := (by refine Fr.trans ?_ f7 (by simp); repeat (first | exact G6 | refine Fr.drew ?_ | refine Fr.drewN ?_ _)); have F6 : Fr [z0 + 1] w5 w7 := G7.mono (by simp); have H7 := Lib.hid h7; have hb := HY.out _ G7; have k0 := hb.at 0 (v := .float .f64 0) rfl; have k1 := hb.at 1 (v := .float .f64 0) rfl; have k2 := hb.at 2 (v := .float .f64 0) rfl; have k3 := hb.at 3 (v := .float .f64 0) rfl; have y0 := hb.free 0; have y1 := hb.free 1; have y2 := hb.free 2; have y3 := hb.free 3; have HK := Lib.hid hb; clear hb h7 f7))
          simp only [Exit.then]
          go_wp2
          obtain ⟨q0, q1, q2, q3⟩ := lay4_cells HK.out (by simp) (.float .f64 x) (.float .f64 y) (.float .f64 u) (.float .f64 v)
          exact bodyPost_ret (ret_map2 rfl rfl rfl q0 q1 q2 q3) rfl ⟨q, HQ.out.1, Fr.lay4 ((HQ.out.2.1.trans G5.out (by simp)).trans G7 (by simp)) _ _ _ _ _ (.inr (by have := H.out.2.2.2; omega)), .inr ⟨by rw [EF.out, E3.out]; rfl, x, y, u, v, ⟨H4.out, p, r, H6.out, H7.out⟩, rfl⟩⟩

end Go.Proofs.Ytkbcdfniocmamaa
