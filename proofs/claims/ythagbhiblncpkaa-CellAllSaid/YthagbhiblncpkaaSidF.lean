/-
  Plain laws of squares and covers: a point lies in its own cell's square and in no other's; a cover counts what it has.
-/
import Derived.Test.YthagbhiblncpkaaSidD
import Derived.Test.YthagbhiblncpkaaCellV
import Derived.Test.YthagbhiblncpkaaCellR
import Derived.Test.YthagbhiblncpkaaCellP
namespace Go.Proofs.Ythagbhiblncpkaa
open Go.RowKit Go.Shelf
set_option linter.unusedVariables false

theorem mul_box {p s : Int} (h : 1 ≤ s) : p / s * s ≤ p ∧ p ≤ p / s * s + s - 1 := by
  have h1 := Int.emod_add_mul_ediv p s
  have h2 := Int.emod_nonneg p (show s ≠ 0 by omega)
  have h3 := Int.emod_lt_of_pos p (show 0 < s by omega)
  rw [Int.mul_comm] at h1
  omega
theorem side_own {p s : Int} (h : 1 ≤ s) (h1 : -1073741823 ≤ p) (h2 : p ≤ 1073741823) : loB (p / s * s) ≤ p ∧ p ≤ hiB (p / s * s) s := by
  have := mul_box (p := p) h
  unfold loB hiB
  constructor <;> split <;> omega
theorem side_other {p e s : Int} (h : 1 ≤ s) (h1 : loB (e * s) ≤ p) (h2 : p ≤ hiB (e * s) s) : e = p / s := by
  have h3 : e * s ≤ p := by unfold loB at h1; split at h1 <;> omega
  have h4 : p < (e + 1) * s := by rw [Int.add_mul]; unfold hiB at h2; split at h2 <;> omega
  have h5 : e ≤ p / s := (Int.le_ediv_iff_mul_le (by omega)).2 h3
  have h6 : p / s < e + 1 := Int.ediv_lt_of_lt_mul (by omega) h4
  omega
theorem ediv_I32 {p s : Int} (hs : 1 ≤ s ∧ s ≤ 2147483648) (h1 : -1073741823 ≤ p) (h2 : p ≤ 1073741823) : I32 (p / s) := by
  have := ediv_bd p s 1073741823 (by omega) (by omega) (by omega) h2
  unfold I32; omega
theorem sq_own {x y s : Int} (hf : fits s = true) (hp : inB x y = true) :
    ∃ k0 k1 k2 k3, sqV (x / s) (y / s) s = .tuple #[.agg #[.int .i32 k0, .int .i32 k1, .int .i32 k2, .int .i32 k3], .bool true] ∧ covers k0 k1 k2 k3 x y = true := by
  have hs := fits_iff.1 hf
  obtain ⟨a1, a2, a3, a4⟩ := inB_iff.1 hp
  have e1 := side_own (s := s) hs.1 a1 a2
  have e2 := side_own (s := s) hs.1 a3 a4
  refine ⟨_, _, _, _, ?_, decide_eq_true ⟨e1.1, e1.2, e2.1, e2.2⟩⟩
  unfold sqV
  rw [if_pos]
  unfold sqOk
  simp only [hf, Bool.true_and, Bool.and_eq_true, decide_eq_true_eq]
  omega
theorem sq_other {ex ey s : Int} (x y : Int) : (∃ k0 k1 k2 k3, sqV ex ey s = .tuple #[.agg #[.int .i32 k0, .int .i32 k1, .int .i32 k2, .int .i32 k3], .bool false]) ∨
    ∃ k0 k1 k2 k3, sqV ex ey s = .tuple #[.agg #[.int .i32 k0, .int .i32 k1, .int .i32 k2, .int .i32 k3], .bool true] ∧ (¬ (ex = x / s ∧ ey = y / s) → covers k0 k1 k2 k3 x y = false) := by
  unfold sqV
  split
  · rename_i h
    refine .inr ⟨_, _, _, _, rfl, fun hne => decide_eq_false fun hc => hne ?_⟩
    unfold sqOk at h
    simp only [Bool.and_eq_true] at h
    have hs := fits_iff.1 h.1
    exact ⟨side_other hs.1 hc.1 hc.2.1, side_other hs.1 hc.2.2.1 hc.2.2.2⟩
  · exact .inl ⟨_, _, _, _, rfl⟩
theorem mem_upTo {a b x : Int} (h1 : a ≤ x) (h2 : x ≤ b) : x ∈ upTo a b := by
  unfold upTo
  rw [List.mem_map]
  exact ⟨(x - a).toNat, by rw [List.mem_range]; omega, by omega⟩
theorem cov_ok {px py qx qy : Int} (hp : inB px py = true) (hq : inB qx qy = true) : boxOk (min px qx) (min py qy) (max px qx) (max py qy) = true := by
  obtain ⟨a1, a2, a3, a4⟩ := inB_iff.1 hp
  obtain ⟨b1, b2, b3, b4⟩ := inB_iff.1 hq
  refine boxOk_iff.2 ⟨inB_iff.2 ?_, inB_iff.2 ?_, ?_, ?_⟩ <;> omega
theorem cov_mem {px py qx qy s : Int} (hf : fits s = true) (hp : inB px py = true) (hq : inB qx qy = true) : (px / s, py / s) ∈ covSeq (min px qx) (min py qy) (max px qx) (max py qy) s := by
  have hs := fits_iff.1 hf
  have h0 : 0 < s := by omega
  unfold covSeq
  rw [if_pos ⟨hf, cov_ok hp hq⟩]
  unfold covRows
  rw [List.mem_flatMap]
  refine ⟨py / s, mem_upTo (Int.ediv_le_ediv h0 (by omega)) (Int.ediv_le_ediv h0 (by omega)), ?_⟩
  unfold covRow
  rw [List.mem_map]
  exact ⟨px / s, mem_upTo (Int.ediv_le_ediv h0 (by omega)) (Int.ediv_le_ediv h0 (by omega)), rfl⟩
theorem cov_len {a b c d s : Int} (hf : fits s = true) (hb : boxOk a b c d = true) : ((covSeq a b c d s).length : Int) = cnt a b c d s := by
  have hs := fits_iff.1 hf
  have h0 : 0 < s := by omega
  obtain ⟨_, _, h1, h2⟩ := boxOk_iff.1 hb
  have e1 := Int.ediv_le_ediv h0 h1
  have e2 := Int.ediv_le_ediv h0 h2
  unfold covSeq cnt
  rw [if_pos ⟨hf, hb⟩, if_pos ⟨hf, hb⟩, covRows_len, upTo_len, Int.natCast_mul, Int.toNat_of_nonneg (by omega), Int.toNat_of_nonneg (by omega), Int.mul_comm]
  congr 1 <;> omega
end Go.Proofs.Ythagbhiblncpkaa
