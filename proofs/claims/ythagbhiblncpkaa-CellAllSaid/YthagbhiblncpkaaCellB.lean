/-
  In and Of of package cell and of its reference, by contracts.
-/
import Derived.Test.YthagbhiblncpkaaCellA
namespace Go.Proofs.Ythagbhiblncpkaa
open Go.RowKit
set_option linter.unusedVariables false

theorem in_any (w : World) (x y : Int) : Calls Try.prog 32 #[pt x y] w fun e w' => e = .returned (.bool (inB x y)) ∧ Fr [] w w' := by
  unfold pt
  by_cases h1 : -1073741823 ≤ x
  · by_cases h2 : x ≤ 1073741823
    · by_cases h3 : -1073741823 ≤ y
      · by_cases h4 : y ≤ 1073741823
        · have H := Lib.hid (show inB x y = true from decide_eq_true ⟨h1, h2, h3, h4⟩)
          go_enter Try.func32, Try.ntmps32
          go_wp2
          go_ret
          exact ⟨ret_bool H.out.symm, (Fr.refl _ _).alloc _⟩
        · have H := Lib.hid (show inB x y = false from decide_eq_false (by omega))
          go_enter Try.func32, Try.ntmps32
          go_wp2
          go_ret
          exact ⟨ret_bool H.out.symm, (Fr.refl _ _).alloc _⟩
      · have H := Lib.hid (show inB x y = false from decide_eq_false (by omega))
        go_enter Try.func32, Try.ntmps32
        go_wp2
        go_ret
        exact ⟨ret_bool H.out.symm, (Fr.refl _ _).alloc _⟩
    · have H := Lib.hid (show inB x y = false from decide_eq_false (by omega))
      go_enter Try.func32, Try.ntmps32
      go_wp2
      go_ret
      exact ⟨ret_bool H.out.symm, (Fr.refl _ _).alloc _⟩
  · have H := Lib.hid (show inB x y = false from decide_eq_false (by omega))
    go_enter Try.func32, Try.ntmps32
    go_wp2
    go_ret
    exact ⟨ret_bool H.out.symm, (Fr.refl _ _).alloc _⟩

theorem refIn_any (w : World) (x y : Int) : Calls Try.prog 25 #[pt x y] w fun e w' => e = .returned (.bool (inB x y)) ∧ Fr [] w w' := by
  unfold pt
  by_cases h1 : -1073741823 ≤ x
  · by_cases h2 : x ≤ 1073741823
    · by_cases h3 : -1073741823 ≤ y
      · by_cases h4 : y ≤ 1073741823
        · have H := Lib.hid (show inB x y = true from decide_eq_true ⟨h1, h2, h3, h4⟩)
          go_enter Try.func25, Try.ntmps25
          go_wp2
          go_ret
          exact ⟨ret_bool H.out.symm, (Fr.refl _ _).alloc _⟩
        · have H := Lib.hid (show inB x y = false from decide_eq_false (by omega))
          go_enter Try.func25, Try.ntmps25
          go_wp2
          go_ret
          exact ⟨ret_bool H.out.symm, (Fr.refl _ _).alloc _⟩
      · have H := Lib.hid (show inB x y = false from decide_eq_false (by omega))
        go_enter Try.func25, Try.ntmps25
        go_wp2
        go_ret
        exact ⟨ret_bool H.out.symm, (Fr.refl _ _).alloc _⟩
    · have H := Lib.hid (show inB x y = false from decide_eq_false (by omega))
      go_enter Try.func25, Try.ntmps25
      go_wp2
      go_ret
      exact ⟨ret_bool H.out.symm, (Fr.refl _ _).alloc _⟩
  · have H := Lib.hid (show inB x y = false from decide_eq_false (by omega))
    go_enter Try.func25, Try.ntmps25
    go_wp2
    go_ret
    exact ⟨ret_bool H.out.symm, (Fr.refl _ _).alloc _⟩

/-- What Of answers. -/
def ofV (x y s : Int) : Value := if fits s then .tuple #[pt (x / s) (y / s), .int .i64 0] else .tuple #[pt 0 0, .int .i64 2]

theorem fits_iff {s : Int} : fits s = true ↔ 1 ≤ s ∧ s ≤ 2147483648 := by unfold fits; exact decide_eq_true_iff

theorem Of_any (w : World) (x y s : Int) (hx : I32 x) (hy : I32 y) :
    Calls Try.prog 16 #[pt x y, .int .i64 s] w fun e w' => e = .returned (ofV x y s) ∧ Fr [] w w' := by
  cases hf : fits s with
  | false =>
    have H := Lib.hid (show ofV x y s = .tuple #[pt 0 0, .int .i64 2] by simp [ofV, hf])
    unfold pt at H ⊢
    go_enter Try.func16, Try.ntmps16
    go_wp2_with fail
    (with_reducible refine (isSize_any _ _).mono ?_)
    rintro e w1 ⟨rfl, rfl⟩
    rw [hf]
    go_wp2
    refine bodyPost_ret (v := .tuple #[.agg #[.int .i32 0, .int .i32 0], .int .i64 2]) (by simp [results, Try.results16, go_sem]) rfl ⟨by rw [H.out], (((Fr.refl _ _).alloc _).alloc _)⟩
  | true =>
    obtain ⟨h1, h2⟩ := fits_iff.1 hf
    have H := Lib.hid (show ofV x y s = .tuple #[pt (x / s) (y / s), .int .i64 0] by simp [ofV, hf])
    have HX := Lib.hid hx
    have HY := Lib.hid hy
    clear hx hy
    have HO := fun w => of_any w x y s HX.out HY.out h1 h2
    have HO' := Lib.hid HO
    clear HO
    unfold pt at H HO' ⊢
    go_enter Try.func16, Try.ntmps16
    go_wp2_with fail
    (with_reducible refine (isSize_any _ _).mono ?_)
    rintro e w1 ⟨rfl, rfl⟩
    rw [hf]
    go_wp2_with fail
    (with_reducible refine (HO'.out _).mono ?_)
    rintro e w2 ⟨rfl, fr⟩
    have cb := fr.blk (Blk.new_at (k := w.heap.size + 1) (by simp) #[.int .i32 0, .int .i32 0] 33) (by simp)
    have c0 := cb.at 0 rfl
    have c1 := cb.at 1 rfl
    have f0 := cb.free 0
    have f1 := cb.free 1
    have FR := Lib.hid ((((Fr.refl [] w).alloc _).alloc _).trans fr (by simp))
    have CB := Lib.hid cb
    clear fr cb
    go_wp2
    have cb := (CB.out.set 0 (.int .i32 (x / s))).set 1 (.int .i32 (y / s))
    have c0 := cb.at 0 (v := .int .i32 (x / s)) rfl
    have c1 := cb.at 1 (v := .int .i32 (y / s)) rfl
    refine bodyPost_ret (v := .tuple #[.agg #[.int .i32 (x / s), .int .i32 (y / s)], .int .i64 0]) (by simp [results, Try.results16, go_sem, c0, c1]) rfl ⟨by rw [H.out], ((FR.out.setCell _ _ ?_).setCell _ _ ?_)⟩
    · exact .inr (by simp)
    · exact .inr (by simp)

/-- The document's division, as an operation of a region wants it. -/
def Downed (x s : Int) : Prop := ∀ w, Calls Try.prog 35 #[.int .i64 x, .int .i64 s] w fun e w' => e = .returned (.int .i64 (x / s)) ∧ w' = w
theorem downed (x s : Int) (h1 : 1 ≤ s) (h2 : s ≤ 2147483648) (hx : I32 x) : Downed x s := by
  obtain ⟨x1, x2⟩ := hx
  intro w
  exact (down_any w x s h1 (by omega) (by omega) (by omega)).mono fun _ _ h => ⟨h.1, h.2.symm⟩
theorem Downed.on {x s : Int} (h : Downed x s) (w : World) : Calls Try.prog 35 #[.int .i64 x, .int .i64 s] w fun e w' => e = .returned (.int .i64 (x / s)) ∧ w' = w := h w

theorem refOf_any (w : World) (x y s : Int) (hx : I32 x) (hy : I32 y) :
    Calls Try.prog 17 #[pt x y, .int .i64 s] w fun e w' => e = .returned (ofV x y s) ∧ Fr [] w w' := by
  cases hf : fits s with
  | false =>
    have H := Lib.hid (show ofV x y s = .tuple #[pt 0 0, .int .i64 2] by simp [ofV, hf])
    unfold pt at H ⊢
    go_enter Try.func17, Try.ntmps17
    go_wp2_with fail
    (with_reducible refine (fits_any _ _).mono ?_)
    rintro e w1 ⟨rfl, rfl⟩
    rw [hf]
    go_wp2
    refine bodyPost_ret (v := .tuple #[.agg #[.int .i32 0, .int .i32 0], .int .i64 2]) (by simp [results, Try.results17, go_sem]) rfl ⟨by rw [H.out], (((Fr.refl _ _).alloc _).alloc _)⟩
  | true =>
    obtain ⟨h1, h2⟩ := fits_iff.1 hf
    have H := Lib.hid (show ofV x y s = .tuple #[pt (x / s) (y / s), .int .i64 0] by simp [ofV, hf])
    obtain ⟨ux, uy⟩ : IntKind.i32.wrap (x / s) = x / s ∧ IntKind.i32.wrap (y / s) = y / s := ⟨i32_div hx h1, i32_div hy h1⟩
    obtain ⟨x1, x2⟩ := hx
    obtain ⟨y1, y2⟩ := hy
    have wx : IntKind.i64.wrap x = x := by rw [IntKind.wrap_i64]; omega
    have wy : IntKind.i64.wrap y = y := by rw [IntKind.wrap_i64]; omega
    have HX := downed x s h1 h2 ⟨x1, x2⟩
    have HY := downed y s h1 h2 ⟨y1, y2⟩
    unfold pt at H ⊢
    go_enter Try.func17, Try.ntmps17
    go_wp2_with fail
    (with_reducible refine (fits_any _ _).mono ?_)
    rintro e w1 ⟨rfl, rfl⟩
    rw [hf]
    go_wp2_with fail
    refine region_tail 13 (by kernel_rfl) (by kernel_rfl) ?_
    simp only [List.take_succ_cons, List.take_zero, List.drop_succ_cons, List.drop_zero]
    iterate 4 still_step
    (refine wpStill_step (fun K hK => ?_); go_simp; (with_reducible refine ⟨_, HX.on _, hK _ ?_⟩); clear hK K)
    iterate 5 still_step
    (refine wpStill_step (fun K hK => ?_); go_simp; (with_reducible refine ⟨_, HY.on _, hK _ ?_⟩); clear hK K)
    iterate 2 still_step
    refine wpStill_nil ?_
    go_wp2
    refine bodyPost_ret (v := .tuple #[.agg #[.int .i32 (x / s), .int .i32 (y / s)], .int .i64 0]) (by simp [results, Try.results17, go_sem]) rfl ⟨by rw [H.out], (((Fr.refl _ _).alloc _).alloc _).drew⟩

end Go.Proofs.Ythagbhiblncpkaa
