/-
  Plain: the cells of a segment are neighbours, within its ends' cells, from one end's to the other's.
-/
import Derived.Test.YthagbhiblncpkaaSidA
namespace Go.Proofs.Ythagbhiblncpkaa
set_option linter.unusedVariables false

section
variable {px py dx dy s : Int}
theorem num_cases (h3 : 1 ≤ dx) {t : Int} (h4 : 0 ≤ t ∧ t ≤ dx) :
    (0 ≤ dy ∧ py * dx ≤ py * dx + dy * t ∧ py * dx + dy * t ≤ (py + dy) * dx) ∨ (dy < 0 ∧ (py + dy) * dx ≤ py * dx + dy * t ∧ py * dx + dy * t ≤ py * dx) := by
  have e : (py + dy) * dx = py * dx + dy * dx := Int.add_mul _ _ _
  rcases (show dy < 0 ∨ 0 ≤ dy by omega) with h | h
  · refine .inr ⟨h, ?_, ?_⟩
    · have := Int.mul_le_mul_of_nonpos_left (a := dy) (show dy ≤ 0 by omega) h4.2
      omega
    · have := Int.mul_nonpos_of_nonpos_of_nonneg (a := dy) (b := t) (by omega) h4.1
      omega
  · refine .inl ⟨h, ?_, ?_⟩
    · have := Int.mul_nonneg h h4.1
      omega
    · have := Int.mul_le_mul_of_nonneg_left h4.2 h
      omega
theorem floor_red (h3 : 1 ≤ dx) (x : Int) : x * dx / (dx * s) = x / s := by
  rw [Int.mul_comm x dx]
  exact Int.mul_ediv_mul_of_pos _ _ (by omega)
theorem g_bd (h3 : 1 ≤ dx) (h5 : 1 ≤ s) {t : Int} (h4 : 0 ≤ t ∧ t ≤ dx) :
    min (py / s) ((py + dy) / s) ≤ (py * dx + dy * t) / (dx * s) ∧ (py * dx + dy * t) / (dx * s) ≤ max (py / s) ((py + dy) / s) := by
  have hD : 0 < dx * s := Int.mul_pos (by omega) (by omega)
  have r1 := floor_red (s := s) h3 py
  have r2 := floor_red (s := s) h3 (py + dy)
  rcases num_cases (py := py) (dy := dy) h3 h4 with ⟨_, a, b⟩ | ⟨_, a, b⟩
  · have a' := Int.ediv_le_ediv hD a
    have b' := Int.ediv_le_ediv hD b
    omega
  · have a' := Int.ediv_le_ediv hD a
    have b' := Int.ediv_le_ediv hD b
    omega
theorem g_exact (h3 : 1 ≤ dx) (h5 : 1 ≤ s) {t : Int} (h4 : 1 ≤ t) (hdy : 0 < dy) (he : (py * dx + dy * t) / (dx * s) * (dx * s) = py * dx + dy * t) : py / s ≤ (py * dx + dy * t) / (dx * s) - 1 := by
  generalize (py * dx + dy * t) / (dx * s) = g at *
  have h1 := Int.mul_pos hdy (show 0 < t by omega)
  have h2 : dx * py < dx * (g * s) := by
    have e1 : dx * (g * s) = g * (dx * s) := by rw [Int.mul_left_comm]
    rw [e1, he, Int.mul_comm dx py]; omega
  have h6 : py < g * s := Int.lt_of_mul_lt_mul_left h2 (by omega)
  have := Int.ediv_lt_of_lt_mul (show 0 < s by omega) h6
  omega
/-- A column's two numbers lie between the ends' rows. -/
theorem first_bd (h3 : 1 ≤ dx) (h5 : 1 ≤ s) {c : Int} (hc : c * s ≤ px + dx) :
    min (py / s) ((py + dy) / s) ≤ firstR px py dx dy s c ∧ firstR px py dx dy s c ≤ max (py / s) ((py + dy) / s) := by
  unfold firstR
  split
  · exact g_bd h3 h5 ⟨by omega, by omega⟩
  · omega
theorem last_bd (h3 : 1 ≤ dx) (h5 : 1 ≤ s) {c : Int} (hc : px < (c + 1) * s) :
    min (py / s) ((py + dy) / s) ≤ lastR px py dx dy s c ∧ lastR px py dx dy s c ≤ max (py / s) ((py + dy) / s) := by
  unfold lastR
  split
  · have hb := g_bd (py := py) (dy := dy) (s := s) h3 h5 (t := (c + 1) * s - px) ⟨by omega, by omega⟩
    unfold endNum
    split
    · rename_i h
      have := g_exact (py := py) (dy := dy) (s := s) h3 h5 (t := (c + 1) * s - px) (by omega) h.2 h.1
      omega
    · exact hb
  · omega
theorem step_bd (h3 : 1 ≤ dx) {c : Int} (h1 : px < (c + 1) * s) (h2 : (c + 1) * s ≤ px + dx) : firstR px py dx dy s (c + 1) - 1 ≤ lastR px py dx dy s c ∧ lastR px py dx dy s c ≤ firstR px py dx dy s (c + 1) := by
  unfold firstR lastR
  rw [if_pos h1, if_pos h2]
  unfold endNum
  split <;> omega
/-- A column that the segment reaches: its right end is right of the segment's left one. -/
theorem col_right {x c : Int} (h5 : 1 ≤ s) (h : x / s ≤ c) : x < (c + 1) * s := by
  have := Int.lt_ediv_add_one_mul_self x (show 0 < s by omega)
  have := Int.mul_le_mul_of_nonneg_right (show x / s + 1 ≤ c + 1 by omega) (show 0 ≤ s by omega)
  omega
theorem col_left {x c : Int} (h5 : 1 ≤ s) (h : c ≤ x / s) : c * s ≤ x := Int.mul_le_of_le_ediv (by omega) h

theorem col_lh (c : Int) : colLow px py dx dy s c ≤ colHigh px py dx dy s c := by
  unfold colLow colHigh
  split <;> omega
theorem col_in (h3 : 0 ≤ dx) (h5 : 1 ≤ s) {c : Int} (hc : px / s ≤ c ∧ c ≤ (px + dx) / s) :
    min (py / s) ((py + dy) / s) ≤ colLow px py dx dy s c ∧ colHigh px py dx dy s c ≤ max (py / s) ((py + dy) / s) := by
  unfold colLow colHigh
  split
  · omega
  · have a := first_bd (px := px) (py := py) (dx := dx) (dy := dy) (s := s) (c := c) (by omega) h5 (col_left h5 hc.2)
    have b := last_bd (px := px) (py := py) (dx := dx) (dy := dy) (s := s) (c := c) (by omega) h5 (col_right h5 hc.1)
    omega
theorem col_next (h3 : 0 ≤ dx) (h5 : 1 ≤ s) {c : Int} (hc : px / s ≤ c ∧ c + 1 ≤ (px + dx) / s) :
    colLow px py dx dy s (c + 1) ≤ colHigh px py dx dy s c + 1 ∧ colLow px py dx dy s c ≤ colHigh px py dx dy s (c + 1) + 1 := by
  unfold colLow colHigh
  by_cases h : dx = 0
  · subst h; rw [Int.add_zero] at hc; omega
  · simp only [if_neg h]
    have := step_bd (px := px) (py := py) (dx := dx) (dy := dy) (s := s) (c := c) (by omega) (col_right h5 hc.1) (col_left h5 hc.2)
    omega
theorem col_begin (h5 : 1 ≤ s) : colLow px py dx dy s (px / s) ≤ py / s ∧ py / s ≤ colHigh px py dx dy s (px / s) := by
  unfold colLow colHigh
  split
  · omega
  · have h : ¬ px / s * s > px := by have := col_left (s := s) (x := px) h5 (Int.le_refl _); omega
    have : firstR px py dx dy s (px / s) = py / s := by unfold firstR; rw [if_neg h]
    omega
theorem col_end (h5 : 1 ≤ s) : colLow px py dx dy s ((px + dx) / s) ≤ (py + dy) / s ∧ (py + dy) / s ≤ colHigh px py dx dy s ((px + dx) / s) := by
  unfold colLow colHigh
  split
  · omega
  · have h : ¬ ((px + dx) / s + 1) * s ≤ px + dx := by have := col_right (s := s) (x := px + dx) h5 (Int.le_refl _); omega
    have : lastR px py dx dy s ((px + dx) / s) = (py + dy) / s := by unfold lastR; rw [if_neg h]
    omega
end
end Go.Proofs.Ythagbhiblncpkaa
