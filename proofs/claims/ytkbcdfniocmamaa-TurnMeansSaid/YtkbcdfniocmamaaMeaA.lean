/-
  Means of headings, by contracts.
-/
import Derived.Test.YtkbcdfniocmamaaMapR
import Derived.Test.YtkbcdfniocmamaaMapM
import Derived.Test.YtkbcdfniocmamaaMapG
import Derived.StillTailTactics
namespace Go.Proofs.Ytkbcdfniocmamaa
open Go.RowKit Flo
set_option linter.unusedVariables false

/-- A slice of complex numbers; of the document's. -/
def RdC (w : World) (v : Value) (n : Nat) (c : Nat → Nat × Nat) : Prop :=
  ∃ p cap, v = .slice p n cap ∧ (n = 0 ∨ ∃ g o, p = some ⟨g, o, none⟩ ∧ ∀ k, k < n → w.cell? ⟨g, o + k, none⟩ = some (.complex .f64 (c k).1 (c k).2))
def RdN (w : World) (v : Value) (n : Nat) (c : Nat → Nat × Nat) : Prop :=
  ∃ p cap, v = .slice p n cap ∧ (n = 0 ∨ ∃ g o, p = some ⟨g, o, none⟩ ∧ ∀ k, k < n → w.cell? ⟨g, o + k * 2, none⟩ = some (.float .f64 (c k).1) ∧ w.cell? ⟨g, o + k * 2 + 1, none⟩ = some (.float .f64 (c k).2))
/-- The sum of the first k. -/
def SumTo (c : Nat → Nat × Nat) : Nat → Nat → Nat → Prop
  | 0, s, t => s = 0 ∧ t = 0
  | k + 1, s, t => ∃ p q, SumTo c k p q ∧ PlusR p q (c k).1 (c k).2 s t
theorem SumTo.fe {c : Nat → Nat × Nat} : ∀ {k s t s' t' : Nat}, SumTo c k s t → SumTo c k s' t' → FE s s' ∧ FE t t'
  | 0, _, _, _, _, h, h' => by rw [h.1, h.2, h'.1, h'.2]; exact ⟨.refl _, .refl _⟩
  | k + 1, _, _, _, _, ⟨_, _, h1, h2⟩, ⟨_, _, k1, k2⟩ => PlusR.fe (SumTo.fe h1 k1).1 (SumTo.fe h1 k1).2 (.refl _) (.refl _) h2 k2
theorem SumTo.lt {c : Nat → Nat × Nat} {k s t : Nat} (h : SumTo c k s t) : s < 2 ^ 64 ∧ t < 2 ^ 64 := by
  cases k with
  | zero => rw [h.1, h.2]; omega
  | succ k => obtain ⟨p, q, _, h2⟩ := h; exact ⟨add_wf h2.1, add_wf h2.2⟩
/-- No mean: the sum is nought, or not finite. -/
def zB (s t : Nat) : Bool := (feq s 0 && feq t 0) || !(finB s && finB t)
theorem feq_fe {x x' y : Nat} (h : FE x x') : feq x y = feq x' y := by
  rcases h with rfl | ⟨h1, h2⟩
  · rfl
  · rw [feq_nan (.inl h1), feq_nan (.inl h2)]
theorem finB_fe {x x' : Nat} (h : FE x x') : finB x = finB x' := by
  rcases h with rfl | ⟨h1, h2⟩
  · rfl
  · rw [finB_nan h1, finB_nan h2]
theorem zB_fe {s t s' t' : Nat} (h : FE s s' ∧ FE t t') : zB s t = zB s' t' := by
  unfold zB
  rw [feq_fe h.1, feq_fe h.2, finB_fe h.1, finB_fe h.2]
def MeanR (c : Nat → Nat × Nat) (n r i : Nat) : Prop :=
  ∃ s t, SumTo c n s t ∧ ((zB s t = true ∧ r = 0 ∧ i = 0) ∨ (zB s t = false ∧ ∃ q l, SquareR s t q ∧ Gives (Ieee.double.sqrt q) l ∧ Gives (Ieee.double.div s l) r ∧ Gives (Ieee.double.div t l) i))
theorem MeanR.fe {c : Nat → Nat × Nat} {n r i r' i' : Nat} (h : MeanR c n r i) (k : MeanR c n r' i') : FE r r' ∧ FE i i' := by
  obtain ⟨s, t, h1, h2⟩ := h
  obtain ⟨s', t', k1, k2⟩ := k
  have e := h1.fe k1
  have ez := zB_fe e
  rcases h2 with ⟨z, rfl, rfl⟩ | ⟨z, q, l, a1, a2, a3, a4⟩ <;> rcases k2 with ⟨y, rfl, rfl⟩ | ⟨y, q', l', b1, b2, b3, b4⟩
  · exact ⟨.refl _, .refl _⟩
  · rw [z, y] at ez; cases ez
  · rw [z, y] at ez; cases ez
  · have e1 := SquareR.fe e.1 e.2 a1 b1
    have e2 := sqrt_fe e1 a2 b2
    exact ⟨div_fe e.1 e2 a3 b3, div_fe e.2 e2 a4 b4⟩
theorem mean_any (w : World) (v : Value) (n : Nat) (c : Nat → Nat × Nat) (hn : n ≤ 140737488355328) (hv : RdC w v n c) : Calls Try.prog 32 #[v] w (CRes (MeanR c n) w) := by
  obtain ⟨p, cap, rfl, h1⟩ := hv
  have H1 := Lib.hid h1
  have EO := Lib.hid (show MeanR c n = fun r i => ∃ s t, SumTo c n s t ∧ ((zB s t = true ∧ r = 0 ∧ i = 0) ∨ (zB s t = false ∧ ∃ q l, SquareR s t q ∧ Gives (Ieee.double.sqrt q) l ∧ Gives (Ieee.double.div s l) r ∧ Gives (Ieee.double.div t l) i)) from rfl)
  generalize MeanR c n = MO at *
  clear h1
  go_enter Try.func32, Try.ntmps32
  go_wp2_with fail
  go_loopw [3, 9] (fun s3 i wr => ∃ k s t : Nat, i = .int .i64 k ∧ k ≤ n ∧ s3 = .complex .f64 s t ∧ SumTo c k s t ∧ Fr [] w wr) (fun _ i _ => n - (intOf i).toNat)
  case atStart => exact ⟨0, 0, 0, rfl, Nat.zero_le _, rfl, ⟨rfl, rfl⟩, Fr.refl _ _⟩
  case round =>
    obtain ⟨k, s, t, rfl, hk, rfl, hs, hf⟩ := hrel
    obtain ⟨wi, rfl⟩ : ∃ wi : World, wi = wr := ⟨_, rfl⟩
    have HS := Lib.hid hs
    have HF := Lib.hid hf
    by_cases hlt : k < n
    · obtain ⟨g, o, rfl, h3⟩ := H1.out.resolve_left (by omega)
      have c1 := (hf.cell (World.block_lt_of_cell? w _ (h3 k hlt)) (by simp)).trans (h3 k hlt)
      have j1 : (0 : Int) ≤ (k : Int) := by omega
      have j2 : (k : Int) < (n : Int) := by omega
      clear h3 hf hs
      go_wp2_with (go_at_call 41; refine (plus_any _ _ _ _ _).mono ?_; rintro e w2 ⟨x, y, rfl, h2, f2⟩; have H2 := Lib.hid (And.intro h2 (HF.out.trans f2 (by simp))); clear h2 f2)
      go_roundw
      case rel => exact ⟨k + 1, x, y, by go_num, by omega, rfl, ⟨_, _, HS.out, H2.out.1⟩, H2.out.2⟩
      case measure => simp [intOf]; omega
    · obtain rfl : n = k := by omega
      have hw := hs.lt
      have HZ := Lib.hid (show zB s t = ((feq s 0 && feq t 0) || !(finB s && finB t)) from rfl)
      have FC := Lib.hid (fun w => finite_any w s t hw.1 hw.2)
      have SC := Lib.hid (fun w => square_any w s t)
      clear hf hs hw
      generalize (finB s && finB t) = fb at *
      have hcs : (feq s 0 = true ∧ feq t 0 = true) ∨ ((feq s 0 = false ∨ (feq s 0 = true ∧ feq t 0 = false)) ∧ (fb = true ∨ fb = false)) := by
        cases feq s 0 <;> cases feq t 0 <;> cases fb <;> simp
      rcases hcs with ⟨e1, e2⟩ | ⟨e1 | ⟨e1, e2⟩, rfl | rfl⟩
      all_goals
        have H0 := HZ.out
        simp only [e1] at H0
        try simp only [e2] at H0
        simp only [Bool.and_true, Bool.and_false, Bool.false_and, Bool.true_or, Bool.false_or, Bool.not_true, Bool.not_false] at H0
        have HZ2 := Lib.hid H0
        clear H0 HZ
        go_wp2_with (first
          | (go_at_call 46; refine (FC.out _).mono ?_; rintro e _ ⟨rfl, rfl⟩)
          | (go_at_call 45; refine (SC.out _).mono ?_; rintro e w3 ⟨q, rfl, h3, f3⟩; have H3 := Lib.hid (And.intro h3 (HF.out.trans f3 (by simp))); clear h3 f3)
          | (go_at_call 63; refine (sqrt_any _ _).mono ?_; rintro e w4 ⟨l, rfl, h4, f4⟩; have H4 := Lib.hid (And.intro h4 (H3.out.2.trans f4 (by simp))); clear h4 f4)
          | (go_at_call 56; refine (re_any _ _ _).mono ?_; rintro e _ ⟨rfl, rfl⟩))
        go_ret
        first
          | (refine ⟨_, _, rfl, ?_, HF.out⟩; rw [EO.out]; exact ⟨s, t, HS.out, .inl ⟨HZ2.out, rfl, rfl⟩⟩)
          | (refine ⟨_, _, rfl, ?_, (H4.out.2.quoW _ _).quoW _ _⟩; rw [EO.out]; exact ⟨s, t, HS.out, .inr ⟨HZ2.out, q, l, H3.out.1, H4.out.1, quoV_gives _ _ _, quoV_gives _ _ _⟩⟩)
set_option maxRecDepth 100000 in
theorem refMean_any (w : World) (v : Value) (n : Nat) (c : Nat → Nat × Nat) (hn : n ≤ 140737488355328) (hv : RdN w v n c) : Calls Try.prog 33 #[v] w (NRes (MeanR c n) w) := by
  obtain ⟨p, cap, rfl, h1⟩ := hv
  have H1 := Lib.hid h1
  have EO := Lib.hid (show MeanR c n = fun r i => ∃ s t, SumTo c n s t ∧ ((zB s t = true ∧ r = 0 ∧ i = 0) ∨ (zB s t = false ∧ ∃ q l, SquareR s t q ∧ Gives (Ieee.double.sqrt q) l ∧ Gives (Ieee.double.div s l) r ∧ Gives (Ieee.double.div t l) i)) from rfl)
  generalize MeanR c n = MO at *
  clear h1
  have hB0 := (Blk.new_at (w := w) (k := w.heap.size) rfl #[.float .f64 0, .float .f64 0] 33).alloc (.cells #[.float .f64 0, .float .f64 0] 33)
  have hB1 := Blk.new_at (w := w.alloc (.cells #[.float .f64 0, .float .f64 0] 33)) (k := w.heap.size + 1) (by simp) #[.float .f64 0, .float .f64 0] 33
  have f0 := ((Fr.refl [] w).alloc (.cells #[.float .f64 0, .float .f64 0] 33)).alloc (.cells #[.float .f64 0, .float .f64 0] 33)
  obtain ⟨z0, hz0⟩ : ∃ z, z = w.heap.size := ⟨_, rfl⟩
  rw [← hz0] at hB0 hB1
  have HB0 := Lib.hid hB0
  have HB1 := Lib.hid hB1
  have HF := Lib.hid f0
  have HZ := Lib.hid (show w.heap.size ≤ z0 by omega)
  clear hB0 hB1 f0
  go_enter Try.func33, Try.ntmps33
  go_upto_region 2 with fail
  simp only [← hz0]
  clear hz0
  generalize World.alloc (World.alloc w _) _ = w0v at *
  obtain ⟨w0, hw0⟩ : ∃ w0, w0 = w0v := ⟨_, rfl⟩
  rw [← hw0] at HB0 HB1 HF
  rw [← hw0]
  clear hw0
  go_wp2_with fail
  go_loopw [4] (fun i wr => ∃ k s t : Nat, i = .int .i64 k ∧ k ≤ n ∧ SumTo c k s t ∧ Blk wr (z0 + 1) #[.float .f64 s, .float .f64 t] 33 ∧ Fr [z0 + 1] w0 wr) (fun i _ => n - (intOf i).toNat)
  case atStart => exact ⟨0, 0, 0, rfl, Nat.zero_le _, ⟨rfl, rfl⟩, HB1.out, Fr.refl _ _⟩
  case round =>
    obtain ⟨k, s, t, rfl, hk, hs, hb, hf⟩ := hrel
    obtain ⟨wi, rfl⟩ : ∃ wi : World, wi = wr := ⟨_, rfl⟩
    have HS := Lib.hid hs
    have HFi := Lib.hid hf
    have HBi := Lib.hid hb
    by_cases hlt : k < n
    · obtain ⟨g, o, rfl, h3⟩ := H1.out.resolve_left (by omega)
      obtain ⟨c1, c2⟩ := h3 k hlt
      have hg := World.block_lt_of_cell? w _ c1
      have hz := HZ.out
      have c3 := (hf.cell (a := ⟨g, o + k * 2, none⟩) (Nat.lt_of_lt_of_le hg HF.out.size) (by simp at hg ⊢; omega)).trans ((HF.out.cell (a := ⟨g, o + k * 2, none⟩) hg (by simp)).trans c1)
      have c4 := (hf.cell (a := ⟨g, o + k * 2 + 1, none⟩) (Nat.lt_of_lt_of_le hg HF.out.size) (by simp at hg ⊢; omega)).trans ((HF.out.cell (a := ⟨g, o + k * 2 + 1, none⟩) hg (by simp)).trans c2)
      have s0 := hb.at 0 (v := .float .f64 s) rfl
      have s1 := hb.at 1 (v := .float .f64 t) rfl
      have j1 : (0 : Int) ≤ (k : Int) := by omega
      have j2 : (k : Int) < (n : Int) := by omega
      clear h3 c1 c2 hg hz hf hs hb
      go_wp2_with fail
      refine wp_region_still_tail 5 (by kernel_rfl) (by kernel_rfl) ?_
      simp only [List.take_succ_cons, List.take_zero, List.drop_succ_cons, List.drop_zero]
      have t0 : ({ wi with drawn := wi.drawn + 1 } : World).cell? ⟨z0 + 1, 0, none⟩ = some (.float .f64 s) := s0
      have t1 : ({ wi with drawn := wi.drawn + 1 } : World).cell? ⟨z0 + 1, 1, none⟩ = some (.float .f64 t) := s1
      have t2 : ({ wi with drawn := wi.drawn + 1 } : World).cell? ⟨g, o + k * 2, none⟩ = some (.float .f64 (c k).1) := c3
      have t3 : ({ wi with drawn := wi.drawn + 1 } : World).cell? ⟨g, o + k * 2 + 1, none⟩ = some (.float .f64 (c k).2) := c4
      still_step
      still_step
      still_step
      still_step
      still_step
      refine wpStill_nil ?_
      change wpList _ _ _ _ _ wi.drew
      clear t0 t1 t2 t3
      go_wp2_with fail
      (with_reducible refine (refPlus_any _ _ _ _ _).mono ?_)
      rintro e w2 ⟨x, y, rfl, h2, f2⟩
      have hb2 := f2.blk HBi.out.drew (by simp)
      have s0 := hb2.at 0 (v := .float .f64 s) rfl
      have s1 := hb2.at 1 (v := .float .f64 t) rfl
      have m0 := hb2.free 0
      have m1 := hb2.free 1
      have H2 := Lib.hid (And.intro h2 (And.intro (hb2.pair (.float .f64 x) (.float .f64 y)) (Fr.lay2 ((HFi.out.drew).trans f2 (by simp)) (z0 + 1) (.float .f64 x) (.float .f64 y) (.inl (by simp)))))
      clear h2 hb2 f2
      go_wp2_with fail
      go_roundw
      case rel => exact ⟨k + 1, x, y, by go_num, by omega, ⟨_, _, HS.out, H2.out.1⟩, H2.out.2.1, H2.out.2.2⟩
      case measure => simp [intOf]; omega
    · obtain rfl : n = k := by omega
      have HZ2 := Lib.hid (show zB s t = ((feq s 0 && feq t 0) || !(finB s && finB t)) from rfl)
      have FC := Lib.hid (fun w => refFinite_any w s t)
      have SC := Lib.hid (fun w => refSquare_any w s t)
      have s0 := hb.at 0 (v := .float .f64 s) rfl
      have s1 := hb.at 1 (v := .float .f64 t) rfl
      have hb0 := hf.blk HB0.out (by simp)
      have r0 := hb0.at 0 (v := .float .f64 0) rfl
      have r1 := hb0.at 1 (v := .float .f64 0) rfl
      have r2 := hb0.free 0
      have r3 := hb0.free 1
      have HBr := Lib.hid hb0
      have HFin := Lib.hid (HF.out.trans hf (by simp; have := HZ.out; omega))
      clear hf hs hb hb0
      generalize (finB s && finB t) = fb at *
      have hcs : (feq s 0 = true ∧ feq t 0 = true) ∨ ((feq s 0 = false ∨ (feq s 0 = true ∧ feq t 0 = false)) ∧ (fb = true ∨ fb = false)) := by
        cases feq s 0 <;> cases feq t 0 <;> cases fb <;> simp
      rcases hcs with ⟨e1, e2⟩ | ⟨e1 | ⟨e1, e2⟩, rfl | rfl⟩
      all_goals
        have H0 := HZ2.out
        rw [e1] at H0
        try rw [e2] at H0
        have HZ3 := Lib.hid H0
        clear H0 HZ2
        go_wp2_with (first
          | (go_at_call 51; refine (FC.out _).mono ?_; rintro e w5 ⟨rfl, f5⟩; have K0 := (f5.blk HBr.out (by simp)); have K1 := (f5.blk HBi.out (by simp)); have r0 := K0.at 0 (v := .float .f64 0) rfl; have r1 := K0.at 1 (v := .float .f64 0) rfl; have r2 := K0.free 0; have r3 := K0.free 1; have s0 := K1.at 0 (v := .float .f64 s) rfl; have s1 := K1.at 1 (v := .float .f64 t) rfl; have H5 := Lib.hid (And.intro K0 (And.intro K1 (HFin.out.trans f5 (by simp)))); clear K0 K1 f5)
          | (go_at_call 50; refine (SC.out _).mono ?_; rintro e w3 ⟨q, rfl, h3, f3⟩; have H3 := Lib.hid (And.intro h3 (And.intro (f3.blk H5.out.1 (by simp)) (And.intro (f3.blk H5.out.2.1 (by simp)) (H5.out.2.2.trans f3 (by simp))))); clear h3 f3)
          | (go_at_call 63; refine (sqrt_any _ _).mono ?_; rintro e w4 ⟨l, rfl, h4, f4⟩; have K0 := (f4.blk H3.out.2.1 (by simp)); have K1 := (f4.blk H3.out.2.2.1 (by simp)); have r0 := K0.at 0 (v := .float .f64 0) rfl; have r1 := K0.at 1 (v := .float .f64 0) rfl; have r2 := K0.free 0; have r3 := K0.free 1; have s0 := K1.at 0 (v := .float .f64 s) rfl; have s1 := K1.at 1 (v := .float .f64 t) rfl; have H4 := Lib.hid (And.intro h4 (And.intro K0 (H3.out.2.2.2.trans f4 (by simp)))); clear h4 f4 K0 K1))
        first
          | (have h5 := H4.out
             clear h5
             obtain ⟨q0, q1⟩ := lay2_cells ((H4.out.2.1.give (Ieee.double.div s l)).give (Ieee.double.div t l)) (by simp) (.float .f64 (quoV w4 s l)) (.float .f64 (quoV (quoW w4 s l) t l))
             refine bodyPost_ret (ret_pair rfl rfl q0 q1) rfl ⟨_, _, rfl, ?_, Fr.lay2 ((H4.out.2.2.quoW _ _).quoW _ _) _ _ _ (.inr (by have := HZ.out; omega))⟩
             rw [EO.out]; exact ⟨s, t, HS.out, .inr ⟨HZ3.out, q, l, H3.out.1, H4.out.1, quoV_gives _ _ _, quoV_gives _ _ _⟩⟩)
          | (have h5 := H5.out
             clear h5
             obtain ⟨q0, q1⟩ := lay2_cells H5.out.1 (by simp) (.float .f64 0) (.float .f64 0)
             refine bodyPost_ret (ret_pair rfl rfl q0 q1) rfl ⟨_, _, rfl, ?_, Fr.lay2 H5.out.2.2 _ _ _ (.inr (by have := HZ.out; omega))⟩
             rw [EO.out]; exact ⟨s, t, HS.out, .inl ⟨HZ3.out, rfl, rfl⟩⟩)
          | (obtain ⟨q0, q1⟩ := lay2_cells HBr.out (by simp) (.float .f64 0) (.float .f64 0)
             refine bodyPost_ret (ret_pair rfl rfl q0 q1) rfl ⟨_, _, rfl, ?_, Fr.lay2 HFin.out _ _ _ (.inr (by have := HZ.out; omega))⟩
             rw [EO.out]; exact ⟨s, t, HS.out, .inl ⟨HZ3.out, rfl, rfl⟩⟩)
end Go.Proofs.Ytkbcdfniocmamaa
