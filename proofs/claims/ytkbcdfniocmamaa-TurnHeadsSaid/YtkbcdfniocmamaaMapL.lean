/-
  Plainly: the quarter turn of the statements' last look: where it leads, and what undoes it.
-/
import Derived.Test.YtkbcdfniocmamaaMapK
import Derived.Test.YtkbcdfniocmamaaMapH
namespace Go.Proofs.Ytkbcdfniocmamaa
open Go.RowKit Flo
set_option linter.unusedVariables false

def oneF : Nat := 4607182418800017408
def negF : Nat := 13830554455654793216
theorem gives_eq {o : Option Nat} {r v : Nat} (e : o = some v) (h : Gives o r) : r = v := by rw [e] at h; exact h
theorem place1 {r i : Nat} (h : ApplyR 0 4607182418800017408 4607182418800017408 0 (fl 2) (fl 3) r i) : r = fl (-2) ∧ i = fl 2 := by
  obtain ⟨p, q, ⟨s, t, u, v, h1, h2, h3, h4, h5, h6⟩, h7, h8⟩ := h
  have e := gives_eq (v := 0) (by kernel_rfl) h1; subst e
  have e := gives_eq (v := 4613937818241073152) (by kernel_rfl) h2; subst e
  have e := gives_eq (v := 13837309855095848960) (by kernel_rfl) h3; subst e
  have e := gives_eq (v := 0) (by kernel_rfl) h4; subst e
  have e := gives_eq (v := 4611686018427387904) (by kernel_rfl) h5; subst e
  have e := gives_eq (v := 4611686018427387904) (by kernel_rfl) h6; subst e
  have e := gives_eq (v := 13835058055282163712) (by kernel_rfl) h7; subst e
  have e := gives_eq (v := 4611686018427387904) (by kernel_rfl) h8; subst e
  exact ⟨by kernel_rfl, by kernel_rfl⟩
theorem place2 {r i : Nat} (h : ApplyR 0 13830554455654793216 0 4607182418800017408 (fl (-2)) (fl 2) r i) : r = fl 2 ∧ i = fl 3 := by
  obtain ⟨p, q, ⟨s, t, u, v, h1, h2, h3, h4, h5, h6⟩, h7, h8⟩ := h
  have e := gives_eq (v := 9223372036854775808) (by kernel_rfl) h1; subst e
  have e := gives_eq (v := 13835058055282163712) (by kernel_rfl) h2; subst e
  have e := gives_eq (v := 4611686018427387904) (by kernel_rfl) h3; subst e
  have e := gives_eq (v := 0) (by kernel_rfl) h4; subst e
  have e := gives_eq (v := 4611686018427387904) (by kernel_rfl) h5; subst e
  have e := gives_eq (v := 4611686018427387904) (by kernel_rfl) h6; subst e
  have e := gives_eq (v := 4611686018427387904) (by kernel_rfl) h7; subst e
  have e := gives_eq (v := 4613937818241073152) (by kernel_rfl) h8; subst e
  exact ⟨by kernel_rfl, by kernel_rfl⟩
theorem back1 {x y u v : Nat} (h : BackR 0 4607182418800017408 4607182418800017408 0 x y u v) : x = 0 ∧ y = 13830554455654793216 ∧ u = 0 ∧ v = 4607182418800017408 := by
  obtain ⟨⟨m, a, b, c, d, e, f, ⟨g, j, k1, k2, k3⟩, h1, h2, h3, h4, h5, h6, h7, h8⟩, p, q, ⟨a', b', c', d', l1, l2, l3, l4, l5, l6⟩, l7, l8⟩ := h
  have e := gives_eq (v := 0) (by kernel_rfl) k1; subst e
  have e := gives_eq (v := 4607182418800017408) (by kernel_rfl) k2; subst e
  have e := gives_eq (v := 4607182418800017408) (by kernel_rfl) k3; subst e
  have e := gives_eq (v := 0) (by kernel_rfl) h1; subst e
  have e := gives_eq (v := 0) (by kernel_rfl) h2; subst e
  have e := gives_eq (v := 0) (by kernel_rfl) h3; subst e
  have e := gives_eq (v := 0) (by kernel_rfl) h4; subst e
  have e := gives_eq (v := 4607182418800017408) (by kernel_rfl) h5; subst e
  have e := gives_eq (v := 13830554455654793216) (by kernel_rfl) h6; subst e
  have e := gives_eq (v := 0) (by kernel_rfl) h7; subst e
  have e := gives_eq (v := 13830554455654793216) (by kernel_rfl) h8; subst e
  have e := gives_eq (v := 0) (by kernel_rfl) l1; subst e
  have e := gives_eq (v := 9223372036854775808) (by kernel_rfl) l2; subst e
  have e := gives_eq (v := 0) (by kernel_rfl) l3; subst e
  have e := gives_eq (v := 0) (by kernel_rfl) l4; subst e
  have e := gives_eq (v := 13830554455654793216) (by kernel_rfl) l5; subst e
  have e := gives_eq (v := 13830554455654793216) (by kernel_rfl) l6; subst e
  have e := gives_eq (v := 0) (by kernel_rfl) l7; subst e
  have e := gives_eq (v := 4607182418800017408) (by kernel_rfl) l8; subst e
  exact ⟨rfl, rfl, rfl, rfl⟩
theorem flat1 {q : Nat} (h : SquareR 0 4607182418800017408 q) : flatB 0 4607182418800017408 4607182418800017408 0 q = false := by
  obtain ⟨g, j, k1, k2, k3⟩ := h
  have e := gives_eq (v := 0) (by kernel_rfl) k1; subst e
  have e := gives_eq (v := 4607182418800017408) (by kernel_rfl) k2; subst e
  have e := gives_eq (v := 4607182418800017408) (by kernel_rfl) k3; subst e
  decide
/-- Placed, as a contract of its own. -/
theorem turn_there (w : World) : Calls Try.prog 30 #[.agg #[.complex .f64 0 4607182418800017408, .complex .f64 4607182418800017408 0], .agg #[.int .i32 2, .int .i32 3]] w fun e w' => e = .returned (.tuple #[.agg #[.int .i32 (-2), .int .i32 2], .int .i64 0]) ∧ Fr [] w w' := by
  refine (place_any w 0 4607182418800017408 4607182418800017408 0 2 3 (by omega) (by omega) 0).mono ?_
  rintro e w' ⟨r, i, h, rfl, hf⟩
  obtain ⟨rfl, rfl⟩ := place1 h
  refine ⟨?_, hf⟩
  rw [show placeX (fl (-2)) (fl 2) = -2 by decide, show placeY (fl (-2)) (fl 2) = 2 by decide, show placeE (fl (-2)) (fl 2) = 0 by decide]
theorem turn_here (w : World) : Calls Try.prog 30 #[.agg #[.complex .f64 0 13830554455654793216, .complex .f64 0 4607182418800017408], .agg #[.int .i32 (-2), .int .i32 2]] w fun e w' => e = .returned (.tuple #[.agg #[.int .i32 2, .int .i32 3], .int .i64 0]) ∧ Fr [] w w' := by
  refine (place_any w 0 13830554455654793216 0 4607182418800017408 (-2) 2 (by omega) (by omega) 0).mono ?_
  rintro e w' ⟨r, i, h, rfl, hf⟩
  obtain ⟨rfl, rfl⟩ := place2 h
  refine ⟨?_, hf⟩
  rw [show placeX (fl 2) (fl 3) = 2 by decide, show placeY (fl 2) (fl 3) = 3 by decide, show placeE (fl 2) (fl 3) = 0 by decide]
theorem turn_back (w : World) : Calls Try.prog 19 #[.agg #[.complex .f64 0 4607182418800017408, .complex .f64 4607182418800017408 0]] w fun e w' => e = .returned (.tuple #[.agg #[.complex .f64 0 13830554455654793216, .complex .f64 0 4607182418800017408], .int .i64 0]) ∧ Fr [] w w' := by
  refine (back_any w 0 4607182418800017408 4607182418800017408 0 (by omega) (by omega) (by omega) (by omega)).mono ?_
  rintro e w' ⟨q, hq, hf, h | ⟨h, x, y, u, v, hb, rfl⟩⟩
  · rw [flat1 hq] at h
    cases h.1
  · obtain ⟨rfl, rfl, rfl, rfl⟩ := back1 hb
    exact ⟨rfl, hf⟩
theorem turn_sector (w : World) : Calls Try.prog 24 #[.complex .f64 0 4607182418800017408] w fun e w' => e = .returned (.int .i8 2) ∧ w' = w := by
  refine (sector_any w 0 4607182418800017408).mono ?_
  rintro e w' ⟨rfl, rfl⟩
  rw [show sec 0 4607182418800017408 = 2 by decide]
  exact ⟨rfl, rfl⟩
end Go.Proofs.Ytkbcdfniocmamaa
