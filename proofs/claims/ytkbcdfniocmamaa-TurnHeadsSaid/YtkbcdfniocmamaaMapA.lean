/-
  Apply and Then of package turn and of its reference, by contracts.
-/
import Derived.Test.YtkbcdfniocmamaaFloY
namespace Go.Proofs.Ytkbcdfniocmamaa
open Go.RowKit Flo
set_option linter.unusedVariables false

def ApplyR (ar ai br bi zr zi r i : Nat) : Prop := ∃ p q, TimesR ar ai zr zi p q ∧ PlusR p q br bi r i
def ThenR (ar ai br bi cr ci dr di x y u v : Nat) : Prop := TimesR cr ci ar ai x y ∧ ∃ p q, TimesR cr ci br bi p q ∧ PlusR p q dr di u v
def MRes (R : Nat → Nat → Nat → Nat → Prop) (w : World) (e : Ending) (w' : World) : Prop := ∃ x y u v, e = .returned (.agg #[.complex .f64 x y, .complex .f64 u v]) ∧ R x y u v ∧ Fr [] w w'
def PRes (R : Nat → Nat → Nat → Nat → Prop) (w : World) (e : Ending) (w' : World) : Prop := ∃ x y u v, e = .returned (.agg #[.float .f64 x, .float .f64 y, .float .f64 u, .float .f64 v]) ∧ R x y u v ∧ Fr [] w w'
theorem info28 : (Try.prog.info? 28).map (·.size) = some 2 := by kernel_rfl
theorem info35 : (Try.prog.info? 35).map (·.size) = some 4 := by kernel_rfl
theorem ret_sim {fn : Func} {p : Tmp} (h : fn.results = #[.cell p 28]) {W : World} {g : Nat} {u v : Value} {tmps : Array Value} (hp : tmps.getD p undef = .pointer (some ⟨g, 0, none⟩)) (h0 : W.cell? ⟨g, 0, none⟩ = some u) (h1 : W.cell? ⟨g, 1, none⟩ = some v) :
    (results fn tmps).run Try.prog W = .ok (.agg #[u, v]) W := by
  have h2 : (results fn tmps).run Try.prog W = ((asAddr (tmps.getD p undef)).run Try.prog W).andThen fun a w₁ => (loadVar 28 a).run Try.prog w₁ := by
    simp only [results, h]
    simp [Sem.run_bind, Result.andThen]
  rw [h2, hp]
  have h3 := run_loadVar_mid (P := Try.prog) W g 0 28 [u, v] _ (fun j x hx => by
    match j, hx with
    | 0, hx => simp at hx; subst hx; exact h0
    | 1, hx => simp at hx; subst hx; exact h1
    | j + 2, hx => simp at hx) Try.underlying28 rfl info28
  simp [asAddr, Result.andThen, h3]
def lay4 (W : World) (g : Nat) (u v x y : Value) : World := (((W.setCell ⟨g, 0, none⟩ u).setCell ⟨g, 1, none⟩ v).setCell ⟨g, 2, none⟩ x).setCell ⟨g, 3, none⟩ y
theorem lay4_cells {W : World} {g : Nat} {a b c d : Value} {e : TypeId} (h : Blk W g #[a, b, c, d] e) (hc : 4 ≤ (#[a, b, c, d] : Array Value).size) (u v x y : Value) : (lay4 W g u v x y).cell? ⟨g, 0, none⟩ = some u ∧ (lay4 W g u v x y).cell? ⟨g, 1, none⟩ = some v ∧ (lay4 W g u v x y).cell? ⟨g, 2, none⟩ = some x ∧ (lay4 W g u v x y).cell? ⟨g, 3, none⟩ = some y := by
  have hb := (((h.set 0 u).set 1 v).set 2 x).set 3 y
  exact ⟨hb.at 0 rfl, hb.at 1 rfl, hb.at 2 rfl, hb.at 3 rfl⟩
theorem Fr.lay4 {S : List Nat} {a W : World} (h : Fr S a W) (g : Nat) (u v x y : Value) (hg : g ∈ S ∨ a.heap.size ≤ g) : Fr S a (Go.Proofs.Ytkbcdfniocmamaa.lay4 W g u v x y) := (((h.setCell _ _ hg).setCell _ _ hg).setCell _ _ hg).setCell _ _ hg
theorem ret_map {fn : Func} {p : Tmp} (h : fn.results = #[.cell p 35]) {W : World} {g : Nat} {u v x y : Value} {tmps : Array Value} (hp : tmps.getD p undef = .pointer (some ⟨g, 0, none⟩)) (h0 : W.cell? ⟨g, 0, none⟩ = some u) (h1 : W.cell? ⟨g, 1, none⟩ = some v) (h8 : W.cell? ⟨g, 2, none⟩ = some x) (h9 : W.cell? ⟨g, 3, none⟩ = some y) :
    (results fn tmps).run Try.prog W = .ok (.agg #[u, v, x, y]) W := by
  have h2 : (results fn tmps).run Try.prog W = ((asAddr (tmps.getD p undef)).run Try.prog W).andThen fun a w₁ => (loadVar 35 a).run Try.prog w₁ := by
    simp only [results, h]
    simp [Sem.run_bind, Result.andThen]
  rw [h2, hp]
  have h3 := run_loadVar_mid (P := Try.prog) W g 0 35 [u, v, x, y] _ (fun j t hx => by
    match j, hx with
    | 0, hx => simp at hx; subst hx; exact h0
    | 1, hx => simp at hx; subst hx; exact h1
    | 2, hx => simp at hx; subst hx; exact h8
    | 3, hx => simp at hx; subst hx; exact h9
    | j + 4, hx => simp at hx) Try.underlying35 rfl info35
  simp [asAddr, Result.andThen, h3]
theorem apply_any (w : World) (ar ai br bi zr zi : Nat) : Calls Try.prog 13 #[.agg #[.complex .f64 ar ai, .complex .f64 br bi], .complex .f64 zr zi] w (CRes (ApplyR ar ai br bi zr zi) w) := by
  have hB0 := (Blk.new_at (w := w) (k := w.heap.size + 0) (by simp) #[.complex .f64 ar ai, .complex .f64 br bi] 28)
  have f0 := ((Fr.refl [] w).alloc (.cells #[.complex .f64 ar ai, .complex .f64 br bi] 28))
  obtain ⟨z0, hz0⟩ : ∃ z, z = w.heap.size := ⟨_, rfl⟩
  rw [show w.heap.size + 0 = z0 by omega] at hB0
  have HZ := Lib.hid (show w.heap.size ≤ z0 from by omega)
  have HF := Lib.hid f0
  have HB0 := Lib.hid hB0
  clear f0 hB0
  go_enter Try.func13, Try.ntmps13
  go_wp2_with fail
  simp only [← hz0]
  clear hz0
  generalize (World.alloc w _) = w0v at *
  obtain ⟨w0, hw0⟩ : ∃ w0, w0 = w0v := ⟨_, rfl⟩
  rw [← hw0] at HB0
  rw [← hw0] at HF
  rw [← hw0]
  clear hw0
  have SS := Lib.hid (fun (W : World) (f : Fr [] w0 W) => show W.cell? ⟨z0, 0, none⟩ = some (.complex .f64 ar ai) ∧ W.cell? ⟨z0, 1, none⟩ = some (.complex .f64 br bi) from ⟨(f.blk HB0.out (by simp <;> omega)).at 0 rfl, (f.blk HB0.out (by simp <;> omega)).at 1 rfl⟩)
  obtain ⟨c0, c1⟩ := SS.out _ (Fr.refl _ w0)
  go_region_held3 (fun w' => w'.cell? ⟨z0, 0, none⟩ = some (.complex .f64 ar ai) ∧ w'.cell? ⟨z0, 1, none⟩ = some (.complex .f64 br bi)) (first | (refine SS.out _ ?_; repeat (first | exact F3 | exact F2 | exact F1 | exact Fr.refl _ _ | refine Fr.drew ?_ | refine Fr.drewN ?_ _ | refine Fr.alloc ?_ _ | refine Fr.setCell ?_ _ _ (.inl (by simp)))))
    (first
      | (go_at_call 42; refine (times_any _ _ _ _ _).mono ?_; rintro e w1 ⟨p, q, rfl, h1, f1⟩; have G1 : Fr [] w0 w1 := (by refine Fr.trans ?_ f1 (by simp); repeat (first | exact G2 | exact G1 | exact Fr.refl _ _ | refine Fr.drew ?_ | refine Fr.drewN ?_ _)); have F1 : Fr [] w0 w1 := G1.mono (by simp); have H1 := Lib.hid h1; clear h1 f1)
      | (go_at_call 41; refine (plus_any _ _ _ _ _).mono ?_; rintro e w2 ⟨r, i, rfl, h2, f2⟩; have G2 : Fr [] w0 w2 := (by refine Fr.trans ?_ f2 (by simp); repeat (first | exact G2 | exact G1 | exact Fr.refl _ _ | refine Fr.drew ?_ | refine Fr.drewN ?_ _)); have F2 : Fr [] w0 w2 := G2.mono (by simp); have H2 := Lib.hid h2; clear h2 f2))
  simp only [Exit.then]
  go_wp2
  go_ret
  exact ⟨_, _, rfl, ⟨_, _, H1.out, H2.out⟩, HF.out.trans G2 (by simp)⟩
theorem refApply_any (w : World) (ar ai br bi zr zi : Nat) : Calls Try.prog 14 #[.agg #[.float .f64 ar, .float .f64 ai, .float .f64 br, .float .f64 bi], .agg #[.float .f64 zr, .float .f64 zi]] w (NRes (ApplyR ar ai br bi zr zi) w) := by
  have hB0 := (((Blk.new_at (w := w) (k := w.heap.size + 0) (by simp) #[.float .f64 ar, .float .f64 ai, .float .f64 br, .float .f64 bi] 35).alloc (.cells #[.float .f64 zr, .float .f64 zi] 33)).alloc (.cells #[.float .f64 0, .float .f64 0] 33))
  have hB1 := ((Blk.new_at (w := (World.alloc w (.cells #[.float .f64 ar, .float .f64 ai, .float .f64 br, .float .f64 bi] 35))) (k := w.heap.size + 1) (by simp) #[.float .f64 zr, .float .f64 zi] 33).alloc (.cells #[.float .f64 0, .float .f64 0] 33))
  have hB2 := (Blk.new_at (w := (World.alloc (World.alloc w (.cells #[.float .f64 ar, .float .f64 ai, .float .f64 br, .float .f64 bi] 35)) (.cells #[.float .f64 zr, .float .f64 zi] 33))) (k := w.heap.size + 2) (by simp) #[.float .f64 0, .float .f64 0] 33)
  have f0 := ((((Fr.refl [] w).alloc (.cells #[.float .f64 ar, .float .f64 ai, .float .f64 br, .float .f64 bi] 35)).alloc (.cells #[.float .f64 zr, .float .f64 zi] 33)).alloc (.cells #[.float .f64 0, .float .f64 0] 33))
  obtain ⟨z0, hz0⟩ : ∃ z, z = w.heap.size := ⟨_, rfl⟩
  rw [show w.heap.size + 0 = z0 by omega] at hB0
  rw [show w.heap.size + 1 = z0 + 1 by omega] at hB1
  rw [show w.heap.size + 2 = z0 + 1 + 1 by omega] at hB2
  have HZ := Lib.hid (show w.heap.size ≤ z0 from by omega)
  have HF := Lib.hid f0
  have HB0 := Lib.hid hB0
  have HB1 := Lib.hid hB1
  have HB2 := Lib.hid hB2
  clear f0 hB0 hB1 hB2
  go_enter Try.func14, Try.ntmps14
  go_wp2_with fail
  simp only [← hz0]
  clear hz0
  generalize (World.alloc (World.alloc (World.alloc w _) _) _) = w0v at *
  obtain ⟨w0, hw0⟩ : ∃ w0, w0 = w0v := ⟨_, rfl⟩
  rw [← hw0] at HB0
  rw [← hw0] at HB1
  rw [← hw0] at HB2
  rw [← hw0] at HF
  rw [← hw0]
  clear hw0
  have SS := Lib.hid (fun (W : World) (f : Fr [z0 + 1 + 1] w0 W) => show W.cell? ⟨z0, 0, none⟩ = some (.float .f64 ar) ∧ W.cell? ⟨z0, 1, none⟩ = some (.float .f64 ai) ∧ W.cell? ⟨z0, 2, none⟩ = some (.float .f64 br) ∧ W.cell? ⟨z0, 3, none⟩ = some (.float .f64 bi) ∧ W.cell? ⟨z0 + 1, 0, none⟩ = some (.float .f64 zr) ∧ W.cell? ⟨z0 + 1, 1, none⟩ = some (.float .f64 zi) from ⟨(f.blk HB0.out (by simp <;> omega)).at 0 rfl, (f.blk HB0.out (by simp <;> omega)).at 1 rfl, (f.blk HB0.out (by simp <;> omega)).at 2 rfl, (f.blk HB0.out (by simp <;> omega)).at 3 rfl, (f.blk HB1.out (by simp <;> omega)).at 0 rfl, (f.blk HB1.out (by simp <;> omega)).at 1 rfl⟩)
  obtain ⟨c0, c1, c2, c3, c4, c5⟩ := SS.out _ (Fr.refl _ w0)
  go_region_held3 (fun w' => w'.cell? ⟨z0, 0, none⟩ = some (.float .f64 ar) ∧ w'.cell? ⟨z0, 1, none⟩ = some (.float .f64 ai) ∧ w'.cell? ⟨z0, 2, none⟩ = some (.float .f64 br) ∧ w'.cell? ⟨z0, 3, none⟩ = some (.float .f64 bi) ∧ w'.cell? ⟨z0 + 1, 0, none⟩ = some (.float .f64 zr) ∧ w'.cell? ⟨z0 + 1, 1, none⟩ = some (.float .f64 zi)) (first | (refine SS.out _ ?_; repeat (first | exact F3 | exact F2 | exact F1 | exact Fr.refl _ _ | refine Fr.drew ?_ | refine Fr.drewN ?_ _ | refine Fr.alloc ?_ _ | refine Fr.setCell ?_ _ _ (.inl (by simp)))))
    (first
      | (go_at_call 44; refine (refTimes_any _ _ _ _ _).mono ?_; rintro e w1 ⟨p, q, rfl, h1, f1⟩; have G1 : Fr [] w0 w1 := (by refine Fr.trans ?_ f1 (by simp); repeat (first | exact G2 | exact G1 | exact Fr.refl _ _ | refine Fr.drew ?_ | refine Fr.drewN ?_ _)); have F1 : Fr [z0 + 1 + 1] w0 w1 := G1.mono (by simp); have H1 := Lib.hid h1; clear h1 f1)
      | (go_at_call 43; refine (refPlus_any _ _ _ _ _).mono ?_; rintro e w2 ⟨r, i, rfl, h2, f2⟩; have G2 : Fr [] w0 w2 := (by refine Fr.trans ?_ f2 (by simp); repeat (first | exact G2 | exact G1 | exact Fr.refl _ _ | refine Fr.drew ?_ | refine Fr.drewN ?_ _)); have F2 : Fr [z0 + 1 + 1] w0 w2 := G2.mono (by simp); have H2 := Lib.hid h2; clear h2 f2; have hb := G2.blk HB2.out (by simp); have k0 := hb.at 0 (v := .float .f64 0) rfl; have k1 := hb.at 1 (v := .float .f64 0) rfl; have k2 := hb.free 0; have k3 := hb.free 1; have HK := Lib.hid hb; clear hb))
  simp only [Exit.then]
  go_wp2
  obtain ⟨h0, h1⟩ := lay2_cells HK.out (by simp) (.float .f64 r) (.float .f64 i)
  exact bodyPost_ret (ret_pair rfl rfl h0 h1) rfl ⟨_, _, rfl, ⟨_, _, H1.out, H2.out⟩, Fr.lay2 (HF.out.trans G2 (by simp)) _ _ _ (.inr (by have := HZ.out; omega))⟩
theorem then_any (w : World) (ar ai br bi cr ci dr di : Nat) : Calls Try.prog 17 #[.agg #[.complex .f64 ar ai, .complex .f64 br bi], .agg #[.complex .f64 cr ci, .complex .f64 dr di]] w (MRes (ThenR ar ai br bi cr ci dr di) w) := by
  have hB0 := (((Blk.new_at (w := w) (k := w.heap.size + 0) (by simp) #[.complex .f64 ar ai, .complex .f64 br bi] 28).alloc (.cells #[.complex .f64 cr ci, .complex .f64 dr di] 28)).alloc (.cells #[.complex .f64 0 0, .complex .f64 0 0] 28))
  have hB1 := ((Blk.new_at (w := (World.alloc w (.cells #[.complex .f64 ar ai, .complex .f64 br bi] 28))) (k := w.heap.size + 1) (by simp) #[.complex .f64 cr ci, .complex .f64 dr di] 28).alloc (.cells #[.complex .f64 0 0, .complex .f64 0 0] 28))
  have hB2 := (Blk.new_at (w := (World.alloc (World.alloc w (.cells #[.complex .f64 ar ai, .complex .f64 br bi] 28)) (.cells #[.complex .f64 cr ci, .complex .f64 dr di] 28))) (k := w.heap.size + 2) (by simp) #[.complex .f64 0 0, .complex .f64 0 0] 28)
  have f0 := ((((Fr.refl [] w).alloc (.cells #[.complex .f64 ar ai, .complex .f64 br bi] 28)).alloc (.cells #[.complex .f64 cr ci, .complex .f64 dr di] 28)).alloc (.cells #[.complex .f64 0 0, .complex .f64 0 0] 28))
  obtain ⟨z0, hz0⟩ : ∃ z, z = w.heap.size := ⟨_, rfl⟩
  rw [show w.heap.size + 0 = z0 by omega] at hB0
  rw [show w.heap.size + 1 = z0 + 1 by omega] at hB1
  rw [show w.heap.size + 2 = z0 + 1 + 1 by omega] at hB2
  have HZ := Lib.hid (show w.heap.size ≤ z0 from by omega)
  have HF := Lib.hid f0
  have HB0 := Lib.hid hB0
  have HB1 := Lib.hid hB1
  have HB2 := Lib.hid hB2
  clear f0 hB0 hB1 hB2
  go_enter Try.func17, Try.ntmps17
  go_wp2_with fail
  simp only [← hz0]
  clear hz0
  generalize (World.alloc (World.alloc (World.alloc w _) _) _) = w0v at *
  obtain ⟨w0, hw0⟩ : ∃ w0, w0 = w0v := ⟨_, rfl⟩
  rw [← hw0] at HB0
  rw [← hw0] at HB1
  rw [← hw0] at HB2
  rw [← hw0] at HF
  rw [← hw0]
  clear hw0
  have SS := Lib.hid (fun (W : World) (f : Fr [z0 + 1 + 1] w0 W) => show W.cell? ⟨z0, 0, none⟩ = some (.complex .f64 ar ai) ∧ W.cell? ⟨z0, 1, none⟩ = some (.complex .f64 br bi) ∧ W.cell? ⟨z0 + 1, 0, none⟩ = some (.complex .f64 cr ci) ∧ W.cell? ⟨z0 + 1, 1, none⟩ = some (.complex .f64 dr di) from ⟨(f.blk HB0.out (by simp <;> omega)).at 0 rfl, (f.blk HB0.out (by simp <;> omega)).at 1 rfl, (f.blk HB1.out (by simp <;> omega)).at 0 rfl, (f.blk HB1.out (by simp <;> omega)).at 1 rfl⟩)
  obtain ⟨c0, c1, c2, c3⟩ := SS.out _ (Fr.refl _ w0)
  go_region_held3 (fun w' => w'.cell? ⟨z0, 0, none⟩ = some (.complex .f64 ar ai) ∧ w'.cell? ⟨z0, 1, none⟩ = some (.complex .f64 br bi) ∧ w'.cell? ⟨z0 + 1, 0, none⟩ = some (.complex .f64 cr ci) ∧ w'.cell? ⟨z0 + 1, 1, none⟩ = some (.complex .f64 dr di)) (first | (refine SS.out _ ?_; repeat (first | exact F3 | exact F2 | exact F1 | exact Fr.refl _ _ | refine Fr.drew ?_ | refine Fr.drewN ?_ _ | refine Fr.alloc ?_ _ | refine Fr.setCell ?_ _ _ (.inl (by simp)))))
    (first
      | (go_at_call 42; have _ := H1; refine (times_any _ _ _ _ _).mono ?_; rintro e w2 ⟨p, q, rfl, h2, f2⟩; have G2 : Fr [] w0 w2 := (by refine Fr.trans ?_ f2 (by simp); repeat (first | exact G2 | exact G1 | exact Fr.refl _ _ | refine Fr.drew ?_ | refine Fr.drewN ?_ _)); have F2 : Fr [z0 + 1 + 1] w0 w2 := G2.mono (by simp); have H2 := Lib.hid h2; clear h2 f2)
      | (go_at_call 42; refine (times_any _ _ _ _ _).mono ?_; rintro e w1 ⟨x, y, rfl, h1, f1⟩; have G1 : Fr [] w0 w1 := (by refine Fr.trans ?_ f1 (by simp); repeat (first | exact G2 | exact G1 | exact Fr.refl _ _ | refine Fr.drew ?_ | refine Fr.drewN ?_ _)); have F1 : Fr [z0 + 1 + 1] w0 w1 := G1.mono (by simp); have H1 := Lib.hid h1; clear h1 f1)
      | (go_at_call 41; refine (plus_any _ _ _ _ _).mono ?_; rintro e w3 ⟨u, v, rfl, h3, f3⟩; have G3 : Fr [] w0 w3 := (by refine Fr.trans ?_ f3 (by simp); repeat (first | exact G2 | exact G1 | exact Fr.refl _ _ | refine Fr.drew ?_ | refine Fr.drewN ?_ _)); have F3 : Fr [z0 + 1 + 1] w0 w3 := G3.mono (by simp); have H3 := Lib.hid h3; clear h3 f3; have hb := G3.blk HB2.out (by simp); have k0 := hb.at 0 (v := .complex .f64 0 0) rfl; have m0 := hb.free 0; have k1 := hb.at 1 (v := .complex .f64 0 0) rfl; have m1 := hb.free 1; have HK := Lib.hid hb; clear hb))
  simp only [Exit.then]
  go_wp2
  obtain ⟨h0, h1⟩ := lay2_cells HK.out (by simp) (.complex .f64 x y) (.complex .f64 u v)
  exact bodyPost_ret (ret_sim rfl rfl h0 h1) rfl ⟨_, _, _, _, rfl, ⟨H1.out, _, _, H2.out, H3.out⟩, Fr.lay2 (HF.out.trans G3 (by simp)) _ _ _ (.inr (by have := HZ.out; omega))⟩
theorem refThen_any (w : World) (ar ai br bi cr ci dr di : Nat) : Calls Try.prog 18 #[.agg #[.float .f64 ar, .float .f64 ai, .float .f64 br, .float .f64 bi], .agg #[.float .f64 cr, .float .f64 ci, .float .f64 dr, .float .f64 di]] w (PRes (ThenR ar ai br bi cr ci dr di) w) := by
  have hB0 := (((Blk.new_at (w := w) (k := w.heap.size + 0) (by simp) #[.float .f64 ar, .float .f64 ai, .float .f64 br, .float .f64 bi] 35).alloc (.cells #[.float .f64 cr, .float .f64 ci, .float .f64 dr, .float .f64 di] 35)).alloc (.cells #[.float .f64 0, .float .f64 0, .float .f64 0, .float .f64 0] 35))
  have hB1 := ((Blk.new_at (w := (World.alloc w (.cells #[.float .f64 ar, .float .f64 ai, .float .f64 br, .float .f64 bi] 35))) (k := w.heap.size + 1) (by simp) #[.float .f64 cr, .float .f64 ci, .float .f64 dr, .float .f64 di] 35).alloc (.cells #[.float .f64 0, .float .f64 0, .float .f64 0, .float .f64 0] 35))
  have hB2 := (Blk.new_at (w := (World.alloc (World.alloc w (.cells #[.float .f64 ar, .float .f64 ai, .float .f64 br, .float .f64 bi] 35)) (.cells #[.float .f64 cr, .float .f64 ci, .float .f64 dr, .float .f64 di] 35))) (k := w.heap.size + 2) (by simp) #[.float .f64 0, .float .f64 0, .float .f64 0, .float .f64 0] 35)
  have f0 := ((((Fr.refl [] w).alloc (.cells #[.float .f64 ar, .float .f64 ai, .float .f64 br, .float .f64 bi] 35)).alloc (.cells #[.float .f64 cr, .float .f64 ci, .float .f64 dr, .float .f64 di] 35)).alloc (.cells #[.float .f64 0, .float .f64 0, .float .f64 0, .float .f64 0] 35))
  obtain ⟨z0, hz0⟩ : ∃ z, z = w.heap.size := ⟨_, rfl⟩
  rw [show w.heap.size + 0 = z0 by omega] at hB0
  rw [show w.heap.size + 1 = z0 + 1 by omega] at hB1
  rw [show w.heap.size + 2 = z0 + 1 + 1 by omega] at hB2
  have HZ := Lib.hid (show w.heap.size ≤ z0 from by omega)
  have HF := Lib.hid f0
  have HB0 := Lib.hid hB0
  have HB1 := Lib.hid hB1
  have HB2 := Lib.hid hB2
  clear f0 hB0 hB1 hB2
  go_enter Try.func18, Try.ntmps18
  go_wp2_with fail
  simp only [← hz0]
  clear hz0
  generalize (World.alloc (World.alloc (World.alloc w _) _) _) = w0v at *
  obtain ⟨w0, hw0⟩ : ∃ w0, w0 = w0v := ⟨_, rfl⟩
  rw [← hw0] at HB0
  rw [← hw0] at HB1
  rw [← hw0] at HB2
  rw [← hw0] at HF
  rw [← hw0]
  clear hw0
  have SS := Lib.hid (fun (W : World) (f : Fr [z0 + 1 + 1] w0 W) => show W.cell? ⟨z0, 0, none⟩ = some (.float .f64 ar) ∧ W.cell? ⟨z0, 1, none⟩ = some (.float .f64 ai) ∧ W.cell? ⟨z0, 2, none⟩ = some (.float .f64 br) ∧ W.cell? ⟨z0, 3, none⟩ = some (.float .f64 bi) ∧ W.cell? ⟨z0 + 1, 0, none⟩ = some (.float .f64 cr) ∧ W.cell? ⟨z0 + 1, 1, none⟩ = some (.float .f64 ci) ∧ W.cell? ⟨z0 + 1, 2, none⟩ = some (.float .f64 dr) ∧ W.cell? ⟨z0 + 1, 3, none⟩ = some (.float .f64 di) from ⟨(f.blk HB0.out (by simp <;> omega)).at 0 rfl, (f.blk HB0.out (by simp <;> omega)).at 1 rfl, (f.blk HB0.out (by simp <;> omega)).at 2 rfl, (f.blk HB0.out (by simp <;> omega)).at 3 rfl, (f.blk HB1.out (by simp <;> omega)).at 0 rfl, (f.blk HB1.out (by simp <;> omega)).at 1 rfl, (f.blk HB1.out (by simp <;> omega)).at 2 rfl, (f.blk HB1.out (by simp <;> omega)).at 3 rfl⟩)
  obtain ⟨c0, c1, c2, c3, c4, c5, c6, c7⟩ := SS.out _ (Fr.refl _ w0)
  go_region_held3 (fun w' => w'.cell? ⟨z0, 0, none⟩ = some (.float .f64 ar) ∧ w'.cell? ⟨z0, 1, none⟩ = some (.float .f64 ai) ∧ w'.cell? ⟨z0, 2, none⟩ = some (.float .f64 br) ∧ w'.cell? ⟨z0, 3, none⟩ = some (.float .f64 bi) ∧ w'.cell? ⟨z0 + 1, 0, none⟩ = some (.float .f64 cr) ∧ w'.cell? ⟨z0 + 1, 1, none⟩ = some (.float .f64 ci) ∧ w'.cell? ⟨z0 + 1, 2, none⟩ = some (.float .f64 dr) ∧ w'.cell? ⟨z0 + 1, 3, none⟩ = some (.float .f64 di)) (first | (refine SS.out _ ?_; repeat (first | exact F3 | exact F2 | exact F1 | exact Fr.refl _ _ | refine Fr.drew ?_ | refine Fr.drewN ?_ _ | refine Fr.alloc ?_ _ | refine Fr.setCell ?_ _ _ (.inl (by simp)))))
    (first
      | (go_at_call 44; have _ := H1; refine (refTimes_any _ _ _ _ _).mono ?_; rintro e w2 ⟨p, q, rfl, h2, f2⟩; have G2 : Fr [] w0 w2 := (by refine Fr.trans ?_ f2 (by simp); repeat (first | exact G2 | exact G1 | exact Fr.refl _ _ | refine Fr.drew ?_ | refine Fr.drewN ?_ _)); have F2 : Fr [z0 + 1 + 1] w0 w2 := G2.mono (by simp); have H2 := Lib.hid h2; clear h2 f2)
      | (go_at_call 44; refine (refTimes_any _ _ _ _ _).mono ?_; rintro e w1 ⟨x, y, rfl, h1, f1⟩; have G1 : Fr [] w0 w1 := (by refine Fr.trans ?_ f1 (by simp); repeat (first | exact G2 | exact G1 | exact Fr.refl _ _ | refine Fr.drew ?_ | refine Fr.drewN ?_ _)); have F1 : Fr [z0 + 1 + 1] w0 w1 := G1.mono (by simp); have H1 := Lib.hid h1; clear h1 f1)
      | (go_at_call 43; refine (refPlus_any _ _ _ _ _).mono ?_; rintro e w3 ⟨u, v, rfl, h3, f3⟩; have G3 : Fr [] w0 w3 := (by refine Fr.trans ?_ f3 (by simp); repeat (first | exact G2 | exact G1 | exact Fr.refl _ _ | refine Fr.drew ?_ | refine Fr.drewN ?_ _)); have F3 : Fr [z0 + 1 + 1] w0 w3 := G3.mono (by simp); have H3 := Lib.hid h3; clear h3 f3; have hb := G3.blk HB2.out (by simp); have k0 := hb.at 0 (v := .float .f64 0) rfl; have m0 := hb.free 0; have k1 := hb.at 1 (v := .float .f64 0) rfl; have m1 := hb.free 1; have k2 := hb.at 2 (v := .float .f64 0) rfl; have m2 := hb.free 2; have k3 := hb.at 3 (v := .float .f64 0) rfl; have m3 := hb.free 3; have HK := Lib.hid hb; clear hb))
  simp only [Exit.then]
  go_wp2
  obtain ⟨h0, h1, h2, h3⟩ := lay4_cells HK.out (by simp) (.float .f64 x) (.float .f64 y) (.float .f64 u) (.float .f64 v)
  exact bodyPost_ret (ret_map rfl rfl h0 h1 h2 h3) rfl ⟨_, _, _, _, rfl, ⟨H1.out, _, _, H2.out, H3.out⟩, Fr.lay4 (HF.out.trans G3 (by simp)) _ _ _ _ _ (.inr (by have := HZ.out; omega))⟩

end Go.Proofs.Ytkbcdfniocmamaa
