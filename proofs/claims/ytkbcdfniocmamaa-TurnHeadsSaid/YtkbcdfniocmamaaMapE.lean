/-
  Back of package turn and of its reference, by contracts.
-/
import Derived.Test.YtkbcdfniocmamaaMapC
namespace Go.Proofs.Ytkbcdfniocmamaa
open Go.RowKit Flo
set_option linter.unusedVariables false

/-- Can it not be undone? d: the square of its first part. -/
def flatB (a b c d q : Nat) : Bool := !(finB a && finB b) || (!(finB c && finB d) || (feq q 0 || infB q))
def flatR (a b c d q : Nat) : Bool := !(finB a && finB b) || (!(finB c && finB d) || (feq q 0 || !finB q))
theorem flat_eq {a b c d q : Nat} (h : SquareR a b q) : flatB a b c d q = flatR a b c d q := by
  unfold flatB flatR
  cases h1 : finB a
  · rfl
  · cases h2 : finB b
    · rfl
    · obtain ⟨x, y, hx, hy, hq⟩ := h
      rw [infB_iff (nan_sum (nn_square h1 hx) (nn_square h2 hy) hq)]
theorem square_wf {a b q : Nat} (h : SquareR a b q) : q < 2 ^ 64 := by
  obtain ⟨x, y, hx, hy, hq⟩ := h
  exact add_wf hq
/-- One by a; the other part. -/
def BackR (a b c d x y u v : Nat) : Prop := ByR 4607182418800017408 0 a b x y ∧ ∃ p q, TimesR x y c d p q ∧ MinusR 0 0 p q u v
def BackOut (a b c d : Nat) (w : World) (e : Ending) (w' : World) : Prop :=
  ∃ q, SquareR a b q ∧ Fr [] w w' ∧ ((flatB a b c d q = true ∧ e = .returned (.tuple #[.agg #[.complex .f64 0 0, .complex .f64 0 0], .int .i64 80])) ∨
    (flatB a b c d q = false ∧ ∃ x y u v, BackR a b c d x y u v ∧ e = .returned (.tuple #[.agg #[.complex .f64 x y, .complex .f64 u v], .int .i64 0])))
theorem ret_sim2 {fn : Func} {p u : Tmp} (h : fn.results = #[.cell p 28, .tmp u]) {W : World} {g : Nat} {a b c : Value} {tmps : Array Value} (hp : tmps.getD p undef = .pointer (some ⟨g, 0, none⟩)) (hu : tmps.getD u undef = c) (h0 : W.cell? ⟨g, 0, none⟩ = some a) (h1 : W.cell? ⟨g, 1, none⟩ = some b) :
    (results fn tmps).run Try.prog W = .ok (.tuple #[.agg #[a, b], c]) W := by
  have h3 := run_loadVar_mid (P := Try.prog) W g 0 28 [a, b] _ (fun j x hx => by
    match j, hx with
    | 0, hx => simp at hx; subst hx; exact h0
    | 1, hx => simp at hx; subst hx; exact h1
    | j + 2, hx => simp at hx) Try.underlying28 rfl info28
  rw [results_cell_tmp h, hp, hu]
  simp [asAddr, Result.andThen, h3]
set_option maxHeartbeats 2000000 in
theorem back_any (w : World) (a b c d : Nat) (ha : a < 2 ^ 64) (hb : b < 2 ^ 64) (hc : c < 2 ^ 64) (hd : d < 2 ^ 64) : Calls Try.prog 19 #[.agg #[.complex .f64 a b, .complex .f64 c d]] w (BackOut a b c d w) := by
  have h0 := (Blk.new w #[.complex .f64 a b, .complex .f64 c d] 28).alloc (.cells #[.complex .f64 0 0, .complex .f64 0 0] 28)
  have h1 := Blk.new_at (w := w.alloc (.cells #[.complex .f64 a b, .complex .f64 c d] 28)) (k := w.heap.size + 1) (by simp) #[.complex .f64 0 0, .complex .f64 0 0] 28
  have f0 := ((Fr.refl [] w).alloc (.cells #[.complex .f64 a b, .complex .f64 c d] 28)).alloc (.cells #[.complex .f64 0 0, .complex .f64 0 0] 28)
  obtain ⟨z0, hz0⟩ : ∃ z, z = w.heap.size := ⟨_, rfl⟩
  rw [← hz0] at h0 h1
  have H := Lib.hid (And.intro h0 (And.intro h1 (And.intro f0 (show w.heap.size ≤ z0 by omega))))
  have N1 := Lib.hid (fun w => finite_any w a b ha hb)
  have N2 := Lib.hid (fun w => finite_any w c d hc hd)
  clear h0 h1 f0 ha hb hc hd
  go_enter Try.func19, Try.ntmps19
  go_wp2_with fail
  simp only [← hz0]
  clear hz0
  generalize (World.alloc (World.alloc w _) _) = w0v at *
  obtain ⟨w0, hw0⟩ : ∃ w0, w0 = w0v := ⟨_, rfl⟩
  rw [← hw0] at H
  rw [← hw0]
  clear hw0
  (with_reducible refine (square_any _ _ _).mono ?_)
  rintro e w1 ⟨q, rfl, hq, f1⟩
  have HI := Lib.hid (fun w => isInf_any w q (square_wf hq))
  have HQ := Lib.hid (And.intro hq (And.intro (H.out.2.2.1.trans f1 (by simp)) (And.intro (f1.blk H.out.1 (by simp)) (f1.blk H.out.2.1 (by simp)))))
  have EF := Lib.hid (show flatB a b c d q = (!(finB a && finB b) || (!(finB c && finB d) || (feq q 0 || infB q))) from rfl)
  have c0 := HQ.out.2.2.1.at 0 (v := .complex .f64 a b) rfl
  have c1 := HQ.out.2.2.1.at 1 (v := .complex .f64 c d) rfl
  have k0 := HQ.out.2.2.2.at 0 (v := .complex .f64 0 0) rfl
  have k1 := HQ.out.2.2.2.at 1 (v := .complex .f64 0 0) rfl
  have k2 := HQ.out.2.2.2.free 0
  have k3 := HQ.out.2.2.2.free 1
  clear hq f1
  generalize hB1 : (finB a && finB b) = b1 at *
  generalize hB2 : (finB c && finB d) = b2 at *
  generalize hB4 : infB q = b4 at *
  clear hB1 hB2 hB4
  cases b1 with
  | false =>
    go_wp2_with (first
      | (go_at_call_of 46 (Value.complex FloatKind.f64 a b); refine (N1.out _).mono ?_; rintro e w9 ⟨rfl, rfl⟩))
    obtain ⟨q0, q1⟩ := lay2_cells HQ.out.2.2.2 (by simp) (.complex .f64 0 0) (.complex .f64 0 0)
    exact bodyPost_ret (ret_sim2 rfl rfl rfl q0 q1) rfl ⟨q, HQ.out.1, Fr.lay2 HQ.out.2.1 _ _ _ (.inr (by have := H.out.2.2.2; omega)), .inl ⟨by rw [EF.out]; rfl, rfl⟩⟩
  | true =>
    cases b2 with
    | false =>
      go_wp2_with (first
        | (go_at_call_of 46 (Value.complex FloatKind.f64 a b); refine (N1.out _).mono ?_; rintro e w9 ⟨rfl, rfl⟩)
        | (go_at_call_of 46 (Value.complex FloatKind.f64 c d); refine (N2.out _).mono ?_; rintro e w9 ⟨rfl, rfl⟩)
        | (go_at_call 47; refine (HI.out _).mono ?_; rintro e w9 ⟨rfl, rfl⟩))
      obtain ⟨q0, q1⟩ := lay2_cells HQ.out.2.2.2 (by simp) (.complex .f64 0 0) (.complex .f64 0 0)
      exact bodyPost_ret (ret_sim2 rfl rfl rfl q0 q1) rfl ⟨q, HQ.out.1, Fr.lay2 HQ.out.2.1 _ _ _ (.inr (by have := H.out.2.2.2; omega)), .inl ⟨by rw [EF.out]; rfl, rfl⟩⟩
    | true =>
      cases h3 : feq q 0 with
      | true =>
        have E3 := Lib.hid h3
        go_wp2_with (first
          | (go_at_call_of 46 (Value.complex FloatKind.f64 a b); refine (N1.out _).mono ?_; rintro e w9 ⟨rfl, rfl⟩)
          | (go_at_call_of 46 (Value.complex FloatKind.f64 c d); refine (N2.out _).mono ?_; rintro e w9 ⟨rfl, rfl⟩)
          | (go_at_call 47; refine (HI.out _).mono ?_; rintro e w9 ⟨rfl, rfl⟩))
        obtain ⟨q0, q1⟩ := lay2_cells HQ.out.2.2.2 (by simp) (.complex .f64 0 0) (.complex .f64 0 0)
        exact bodyPost_ret (ret_sim2 rfl rfl rfl q0 q1) rfl ⟨q, HQ.out.1, Fr.lay2 HQ.out.2.1 _ _ _ (.inr (by have := H.out.2.2.2; omega)), .inl ⟨by rw [EF.out, E3.out]; rfl, rfl⟩⟩
      | false =>
        have E3 := Lib.hid h3
        cases b4 with
        | true =>
          go_wp2_with (first
            | (go_at_call_of 46 (Value.complex FloatKind.f64 a b); refine (N1.out _).mono ?_; rintro e w9 ⟨rfl, rfl⟩)
            | (go_at_call_of 46 (Value.complex FloatKind.f64 c d); refine (N2.out _).mono ?_; rintro e w9 ⟨rfl, rfl⟩)
            | (go_at_call 47; refine (HI.out _).mono ?_; rintro e w9 ⟨rfl, rfl⟩))
          obtain ⟨q0, q1⟩ := lay2_cells HQ.out.2.2.2 (by simp) (.complex .f64 0 0) (.complex .f64 0 0)
          exact bodyPost_ret (ret_sim2 rfl rfl rfl q0 q1) rfl ⟨q, HQ.out.1, Fr.lay2 HQ.out.2.1 _ _ _ (.inr (by have := H.out.2.2.2; omega)), .inl ⟨by rw [EF.out, E3.out]; rfl, rfl⟩⟩
        | false =>
          go_wp2_with (first
            | (go_at_call_of 46 (Value.complex FloatKind.f64 a b); refine (N1.out _).mono ?_; rintro e w9 ⟨rfl, rfl⟩)
            | (go_at_call_of 46 (Value.complex FloatKind.f64 c d); refine (N2.out _).mono ?_; rintro e w9 ⟨rfl, rfl⟩)
            | (go_at_call 47; refine (HI.out _).mono ?_; rintro e w9 ⟨rfl, rfl⟩)
            | (go_at_call 48; refine (by_any _ _ _ _ _).mono ?_; rintro e w2 ⟨x, y, rfl, h2, f2⟩; have hb2 := f2.blk HQ.out.2.2.1 (by simp); have hz2 := f2.blk HQ.out.2.2.2 (by simp); have e1 := hb2.at 1 (v := .complex .f64 c d) rfl; have H2 := Lib.hid (And.intro h2 (And.intro (HQ.out.2.1.trans f2 (by simp)) hz2)); clear hb2 hz2 h2 f2)
            | (go_at_call 42; refine (times_any _ _ _ _ _).mono ?_; rintro e w3 ⟨p, r, rfl, h3, f3⟩; have H3 := Lib.hid (And.intro h3 (And.intro (H2.out.2.1.trans f3 (by simp)) (f3.blk H2.out.2.2 (by simp)))); clear h3 f3)
            | (go_at_call 49; refine (minus_any _ _ _ _ _).mono ?_; rintro e w4 ⟨u, v, rfl, h4, f4⟩; have hz4 := f4.blk H3.out.2.2 (by simp); have l0 := hz4.at 0 (v := .complex .f64 0 0) rfl; have l1 := hz4.at 1 (v := .complex .f64 0 0) rfl; have l2 := hz4.free 0; have l3 := hz4.free 1; have H4 := Lib.hid (And.intro h4 (And.intro (H3.out.2.1.trans f4 (by simp)) hz4)); clear hz4 h4 f4))
          obtain ⟨q0, q1⟩ := lay2_cells H4.out.2.2 (by simp) (.complex .f64 x y) (.complex .f64 u v)
          exact bodyPost_ret (ret_sim2 rfl rfl rfl q0 q1) rfl ⟨q, HQ.out.1, Fr.lay2 H4.out.2.1 _ _ _ (.inr (by have := H.out.2.2.2; omega)), .inr ⟨by rw [EF.out, E3.out]; rfl, x, y, u, v, ⟨H2.out.1, p, r, H3.out.1, H4.out.1⟩, rfl⟩⟩
end Go.Proofs.Ytkbcdfniocmamaa
