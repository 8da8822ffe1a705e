/-
  The rows of a column, as package cell and as the document have them, are the same two numbers.
-/
import Derived.Test.YthagbhiblncpkaaCellD
namespace Go.Proofs.Ythagbhiblncpkaa
open Go.RowKit
set_option linter.unusedVariables false

/-- The least and the greatest row of a line in a column. -/
def colLow (px py dx dy s c : Int) : Int := if dx = 0 then min (py / s) ((py + dy) / s) else min (firstR px py dx dy s c) (lastR px py dx dy s c)
def colHigh (px py dx dy s c : Int) : Int := if dx = 0 then max (py / s) ((py + dy) / s) else max (firstR px py dx dy s c) (lastR px py dx dy s c)

/-- A column that the line reaches. -/
theorem col_at {x dx s c : Int} (h5 : 1 ≤ s) (h : x / s ≤ c ∧ c ≤ (x + dx) / s) : x - s < c * s ∧ c * s ≤ x + dx := by
  have e1 := Int.mul_ediv_add_emod x s
  have e2 := Int.emod_nonneg x (show s ≠ 0 by omega)
  have e3 := Int.emod_lt_of_pos x (show 0 < s by omega)
  have p1 := Int.mul_le_mul_of_nonneg_right h.1 (show 0 ≤ s by omega)
  have p2 := Int.mul_le_of_le_ediv (show 0 < s by omega) h.2
  rw [Int.mul_comm] at e1
  omega

theorem rows_any (w : World) (lx ly dx dy s c : Int) (h0 : -1073741823 ≤ lx ∧ lx ≤ 1073741823) (h1 : -1073741823 ≤ ly ∧ ly ≤ 1073741823) (h2 : -1073741823 ≤ ly + dy ∧ ly + dy ≤ 1073741823) (h3 : 0 ≤ dx ∧ dx ≤ 2147483646) (h6 : lx + dx ≤ 1073741823) (h5 : 1 ≤ s ∧ s ≤ 2147483648)
    (hc : lx / s ≤ c ∧ c ≤ (lx + dx) / s) :
    Calls Try.prog 34 #[ln lx ly dx dy s, .int .i64 c] w fun e w' => e = .returned (.tuple #[.int .i64 (colLow lx ly dx dy s c), .int .i64 (colHigh lx ly dx dy s c)]) ∧ Fr [] w w' := by
  by_cases hd : dx = 0
  · unfold colLow colHigh
    rw [if_pos hd, if_pos hd]
    exact rows_nil w lx ly dx dy s c h1 h2 hd h5
  · unfold colLow colHigh
    rw [if_neg hd, if_neg hd]
    have hcs : (c + 1) * s = c * s + s := by rw [Int.add_mul, Int.one_mul]
    have hcc : -2147483648 ≤ c ∧ c ≤ 2147483647 := by
      have b1 := ediv_bd lx s 1073741823 (by omega) (by omega) (by omega) (by omega)
      have b2 := ediv_bd (lx + dx) s 1073741823 (by omega) (by omega) (by omega) (by omega)
      omega
    have hx := col_at h5.1 hc
    have h3' : 1 ≤ dx ∧ dx ≤ 2147483646 := by omega
    unfold firstR lastR endNum
    by_cases hA : lx < c * s
    · rw [if_pos hA]
      by_cases hL : (c + 1) * s ≤ lx + dx
      · rw [if_pos hL]
        by_cases hO : (ly * dx + dy * ((c + 1) * s - lx)) / (dx * s) * (dx * s) = ly * dx + dy * ((c + 1) * s - lx)
        · by_cases hD : 0 < dy
          · rw [if_pos ⟨hO, hD⟩]
            exact rows_12 w lx ly dx dy s c h0 h1 h2 h3' h5 hx hcs hcc hA hL (beq_iff_eq.2 hO) hD
          · rw [if_neg (fun h => hD h.2)]
            exact rows_13 w lx ly dx dy s c h0 h1 h2 h3' h5 hx hcs hcc hA hL (beq_iff_eq.2 hO) hD
        · rw [if_neg (fun h => hO h.1)]
          exact rows_11 w lx ly dx dy s c h0 h1 h2 h3' h5 hx hcs hcc hA hL (beq_eq_false_iff_ne.2 hO)
      · rw [if_neg hL]
        exact rows_10 w lx ly dx dy s c h0 h1 h2 h3' h5 hx hcs hcc hA hL
    · rw [if_neg hA]
      by_cases hL : (c + 1) * s ≤ lx + dx
      · rw [if_pos hL]
        by_cases hO : (ly * dx + dy * ((c + 1) * s - lx)) / (dx * s) * (dx * s) = ly * dx + dy * ((c + 1) * s - lx)
        · by_cases hD : 0 < dy
          · rw [if_pos ⟨hO, hD⟩]
            exact rows_22 w lx ly dx dy s c h0 h1 h2 h3' h5 hx hcs hcc hA hL (beq_iff_eq.2 hO) hD
          · rw [if_neg (fun h => hD h.2)]
            exact rows_23 w lx ly dx dy s c h0 h1 h2 h3' h5 hx hcs hcc hA hL (beq_iff_eq.2 hO) hD
        · rw [if_neg (fun h => hO h.1)]
          exact rows_21 w lx ly dx dy s c h0 h1 h2 h3' h5 hx hcs hcc hA hL (beq_eq_false_iff_ne.2 hO)
      · rw [if_neg hL]
        exact rows_20 w lx ly dx dy s c h0 h1 h2 h3' h5 hx hcs hcc hA hL

/-- Rounded up, less one. -/
theorem up_less (n d : Int) (hd : 1 ≤ d) : -(-n / d) - 1 = if n / d * d = n then n / d - 1 else n / d := by
  have e1 := Int.mul_ediv_add_emod n d
  have e2 := Int.emod_nonneg n (show d ≠ 0 by omega)
  have e3 := Int.emod_lt_of_pos n (show 0 < d by omega)
  rw [Int.mul_comm] at e1
  split
  · rename_i h
    have := (Int.ediv_emod_unique (show 0 < d by omega) (a := -n) (q := -(n / d)) (r := 0)).2 ⟨by rw [Int.mul_neg, Int.mul_comm]; omega, by omega, by omega⟩
    omega
  · rename_i h
    have := (Int.ediv_emod_unique (show 0 < d by omega) (a := -n) (q := -(n / d) - 1) (r := d - n % d)).2 ⟨by rw [Int.mul_sub, Int.mul_neg, Int.mul_comm]; omega, by omega, by omega⟩
    omega

theorem col_any (w : World) (px py qx qy s c : Int) (h0 : -1073741823 ≤ px ∧ px ≤ 1073741823) (h1 : -1073741823 ≤ py ∧ py ≤ 1073741823) (h2 : -1073741823 ≤ qy ∧ qy ≤ 1073741823) (h3 : px ≤ qx) (h6 : qx ≤ 1073741823) (h5 : 1 ≤ s ∧ s ≤ 2147483648)
    (hc : px / s ≤ c ∧ c ≤ qx / s) :
    Calls Try.prog 36 #[pt px py, pt qx qy, .int .i64 s, .int .i64 c] w fun e w' => e = .returned (.tuple #[.int .i64 (colLow px py (qx - px) (qy - py) s c), .int .i64 (colHigh px py (qx - px) (qy - py) s c)]) ∧ Fr [] w w' := by
  by_cases hd : qx - px = 0
  · unfold colLow colHigh
    rw [if_pos hd, if_pos hd, show py + (qy - py) = qy by omega]
    exact col_nil w px py qx qy s c h0 h1 h2 (by omega) h5
  · obtain ⟨dx, hdx⟩ : ∃ d, qx - px = d := ⟨_, rfl⟩
    obtain ⟨dy, hdy⟩ : ∃ d, qy - py = d := ⟨_, rfl⟩
    have hx := col_at (dx := dx) h5.1 (by rw [show px + dx = qx by omega]; exact hc)
    rw [hdx, hdy]
    unfold colLow colHigh
    rw [if_neg (by omega), if_neg (by omega)]
    have hcs : (c + 1) * s = c * s + s := by rw [Int.add_mul, Int.one_mul]
    have h2' : -1073741823 ≤ py + dy ∧ py + dy ≤ 1073741823 := by omega
    have h3' : 1 ≤ dx ∧ dx ≤ 2147483646 := by omega
    have hq : -1073741823 ≤ qx ∧ qx ≤ 1073741823 := by omega
    have hx' : px - s < c * s ∧ c * s ≤ qx := by omega
    have hden := den_bd h3'.1 h3'.2 h5.1 h5.2
    unfold lastR endNum
    rw [show px + dx = qx by omega, show py + dy = qy by omega, hcs]
    by_cases hL : c * s + s ≤ qx
    · rw [if_pos hL]
      rcases Int.lt_trichotomy dy 0 with hD | hD | hD
      · rw [if_neg (show ¬ (_ ∧ 0 < dy) from fun h => by omega)]
        unfold firstR
        by_cases hA : px < c * s
        · rw [if_pos hA]
          exact col_14 w px py qx qy dx dy s c hdx hdy h0 h1 h2' h3' h5 hq hx' hA hL hD
        · rw [if_neg hA]
          exact col_24 w px py qx qy dx dy s c hdx hdy h0 h1 h2' h3' h5 hq hx' hA hL hD
      · rw [if_neg (show ¬ (_ ∧ 0 < dy) from fun h => by omega)]
        have e : ∀ t, (py * dx + dy * t) / (dx * s) = py / s := by
          intro t
          rw [hD, Int.zero_mul, Int.add_zero, Int.mul_comm py dx]
          exact Int.mul_ediv_mul_of_pos _ _ (by omega)
        rw [e]
        unfold firstR
        by_cases hA : px < c * s
        · rw [if_pos hA]
          have := col_13 w px py qx qy dx dy s c hdx hdy h0 h1 h2' h3' h5 hq hx' hA hL hD
          rw [e] at this ⊢
          exact this
        · rw [if_neg hA]
          exact col_23 w px py qx qy dx dy s c hdx hdy h0 h1 h2' h3' h5 hq hx' hA hL hD
      · have e := up_less (py * dx + dy * (c * s + s - px)) (dx * s) hden.1
        rw [show (if (py * dx + dy * (c * s + s - px)) / (dx * s) * (dx * s) = py * dx + dy * (c * s + s - px) ∧ 0 < dy then (py * dx + dy * (c * s + s - px)) / (dx * s) - 1 else (py * dx + dy * (c * s + s - px)) / (dx * s)) = -(-(py * dx + dy * (c * s + s - px)) / (dx * s)) - 1 by rw [e]; simp only [hD, and_true]]
        unfold firstR
        by_cases hA : px < c * s
        · rw [if_pos hA]
          exact col_12 w px py qx qy dx dy s c hdx hdy h0 h1 h2' h3' h5 hq hx' hA hL hD
        · rw [if_neg hA]
          exact col_22 w px py qx qy dx dy s c hdx hdy h0 h1 h2' h3' h5 hq hx' hA hL hD
    · rw [if_neg hL]
      unfold firstR
      by_cases hA : px < c * s
      · rw [if_pos hA]
        exact col_10 w px py qx qy dx dy s c hdx hdy h0 h1 h2' h3' h5 hq hx' hA hL
      · rw [if_neg hA]
        exact col_20 w px py qx qy dx dy s c hdx hdy h0 h1 h2' h3' h5 hq hx' hA hL

/-- They are rows of int32's. -/
theorem col_bd {px py dx dy s c : Int} (h1 : -1073741823 ≤ py ∧ py ≤ 1073741823) (h2 : -1073741823 ≤ py + dy ∧ py + dy ≤ 1073741823) (h3 : 0 ≤ dx ∧ dx ≤ 2147483646) (h5 : 1 ≤ s ∧ s ≤ 2147483648)
    (hc : px / s ≤ c ∧ c ≤ (px + dx) / s) : -1073741824 ≤ colLow px py dx dy s c ∧ colLow px py dx dy s c ≤ colHigh px py dx dy s c ∧ colHigh px py dx dy s c ≤ 1073741823 := by
  have hx := col_at h5.1 hc
  have hcs : (c + 1) * s = c * s + s := by rw [Int.add_mul, Int.one_mul]
  have b1 := ediv_bd py s 1073741823 (by omega) (by omega) h1.1 h1.2
  have b2 := ediv_bd (py + dy) s 1073741823 (by omega) (by omega) h2.1 h2.2
  unfold colLow colHigh
  by_cases hd : dx = 0
  · rw [if_pos hd, if_pos hd]
    omega
  · rw [if_neg hd, if_neg hd]
    have key : ∀ t, 0 ≤ t ∧ t ≤ dx → -1073741823 ≤ (py * dx + dy * t) / (dx * s) ∧ (py * dx + dy * t) / (dx * s) ≤ 1073741823 := by
      intro t ht
      have q1 := Int.mul_le_mul_of_nonneg_right h1.1 (show 0 ≤ dx - t by omega)
      have q2 := Int.mul_le_mul_of_nonneg_right h1.2 (show 0 ≤ dx - t by omega)
      have q3 := Int.mul_le_mul_of_nonneg_right h2.1 ht.1
      have q4 := Int.mul_le_mul_of_nonneg_right h2.2 ht.1
      have e : py * dx + dy * t = py * (dx - t) + (py + dy) * t := by rw [Int.mul_sub, Int.add_mul]; omega
      have hden := den_bd (show 1 ≤ dx by omega) h3.2 h5.1 h5.2
      have p1 := Int.mul_le_mul_of_nonneg_left h5.1 (show 0 ≤ dx by omega)
      constructor
      · rw [Int.le_ediv_iff_mul_le (by omega), e]
        omega
      · refine Int.ediv_le_of_le_mul (by omega) ?_
        rw [e]
        omega
    have hf : -1073741823 ≤ firstR px py dx dy s c ∧ firstR px py dx dy s c ≤ 1073741823 := by
      unfold firstR
      split
      · exact key _ (by omega)
      · exact b1
    have hl : -1073741824 ≤ lastR px py dx dy s c ∧ lastR px py dx dy s c ≤ 1073741823 := by
      unfold lastR endNum
      split
      · have := key ((c + 1) * s - px) (by omega)
        split <;> omega
      · omega
    omega

end Go.Proofs.Ythagbhiblncpkaa
