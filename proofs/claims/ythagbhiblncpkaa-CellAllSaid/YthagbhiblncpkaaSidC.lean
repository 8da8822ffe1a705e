/-
  Plain: the cells of a segment, both ways.
-/
import Derived.Test.YthagbhiblncpkaaSidB
namespace Go.Proofs.Ythagbhiblncpkaa
set_option linter.unusedVariables false

section
variable {px py qx qy s : Int}
theorem right_cols : rightCells px py qx qy s = colsUp (fun j => colLow px py (qx - px) (qy - py) s (px / s + (j : Int))) (fun j => colHigh px py (qx - px) (qy - py) s (px / s + (j : Int))) (px / s) (cols px qx s) := rfl
theorem cols_lt {j : Nat} (hp : px ≤ qx) (h5 : 1 ≤ s) (h : j < cols px qx s) : px / s ≤ px / s + (j : Int) ∧ px / s + (j : Int) ≤ (px + (qx - px)) / s := by
  have := Int.ediv_le_ediv (show 0 < s by omega) hp
  rw [show px + (qx - px) = qx by omega]
  unfold cols at h
  omega
theorem right_nb (hp : px ≤ qx) (h5 : 1 ≤ s) : Nb (rightCells px py qx qy s) := by
  rw [right_cols]
  refine nb_cols _ _ _ _ (fun j _ => col_lh _) ?_ ?_
  · intro j hj
    have h := cols_lt (s := s) hp h5 hj
    have h' := cols_lt (s := s) hp h5 (show j < cols px qx s by omega)
    have := (col_next (px := px) (py := py) (dx := qx - px) (dy := qy - py) (s := s) (c := px / s + (j : Int)) (by omega) h5 ⟨h'.1, by omega⟩).1
    rw [show px / s + ((j + 1 : Nat) : Int) = px / s + (j : Int) + 1 by omega]
    exact this
  · intro j hj
    have h := cols_lt (s := s) hp h5 hj
    have h' := cols_lt (s := s) hp h5 (show j < cols px qx s by omega)
    have := (col_next (px := px) (py := py) (dx := qx - px) (dy := qy - py) (s := s) (c := px / s + (j : Int)) (by omega) h5 ⟨h'.1, by omega⟩).2
    rw [show px / s + ((j + 1 : Nat) : Int) = px / s + (j : Int) + 1 by omega]
    exact this
theorem right_in (hp : px ≤ qx) (h5 : 1 ≤ s) {a : Int × Int} (h : a ∈ rightCells px py qx qy s) :
    (px / s ≤ a.1 ∧ a.1 ≤ qx / s) ∧ min (py / s) (qy / s) ≤ a.2 ∧ a.2 ≤ max (py / s) (qy / s) := by
  obtain ⟨i, hi, rfl⟩ := List.getElem_of_mem h
  have hl := colsUp_len (fun j => colLow px py (qx - px) (qy - py) s (px / s + (j : Int))) (fun j => colHigh px py (qx - px) (qy - py) s (px / s + (j : Int))) (px / s) (cols px qx s)
  obtain ⟨j, k, hj, hk, hik⟩ := off_find _ _ _ i (by rw [← hl]; exact hi)
  have ha := colsUp_at (fun j => colLow px py (qx - px) (qy - py) s (px / s + (j : Int))) (fun j => colHigh px py (qx - px) (qy - py) s (px / s + (j : Int))) (px / s) (cols px qx s) j k hj hk
  rw [← hik] at ha
  have hv := (List.getElem?_eq_some_iff.1 ha).2
  have hv' : (rightCells px py qx qy s)[i] = (px / s + (j : Int), colLow px py (qx - px) (qy - py) s (px / s + (j : Int)) + (k : Int)) := hv
  rw [hv']
  have hc := cols_lt (s := s) hp h5 hj
  have hb := col_in (px := px) (py := py) (dx := qx - px) (dy := qy - py) (s := s) (by omega) h5 hc
  rw [show px + (qx - px) = qx by omega] at hc
  rw [show py + (qy - py) = qy by omega] at hb
  refine ⟨⟨hc.1, hc.2⟩, ?_, ?_⟩
  · simp only; omega
  · simp only; omega
theorem right_mem (hp : px ≤ qx) (h5 : 1 ≤ s) {c y : Int} (hc : px / s ≤ c ∧ c ≤ qx / s) (hy : colLow px py (qx - px) (qy - py) s c ≤ y ∧ y ≤ colHigh px py (qx - px) (qy - py) s c) : (c, y) ∈ rightCells px py qx qy s := by
  obtain ⟨j, hj⟩ : ∃ j : Nat, c = px / s + (j : Int) := ⟨(c - px / s).toNat, by omega⟩
  subst hj
  obtain ⟨k, hk⟩ : ∃ k : Nat, y = colLow px py (qx - px) (qy - py) s (px / s + (j : Int)) + (k : Int) := ⟨(y - colLow px py (qx - px) (qy - py) s (px / s + (j : Int))).toNat, by omega⟩
  subst hk
  have ha := colsUp_at (fun j => colLow px py (qx - px) (qy - py) s (px / s + (j : Int))) (fun j => colHigh px py (qx - px) (qy - py) s (px / s + (j : Int))) (px / s) (cols px qx s) j k (by unfold cols; omega) (by omega)
  exact List.mem_of_getElem? ha
theorem right_begin (hp : px ≤ qx) (h5 : 1 ≤ s) : (px / s, py / s) ∈ rightCells px py qx qy s :=
  right_mem hp h5 ⟨Int.le_refl _, Int.ediv_le_ediv (by omega) hp⟩ (col_begin h5)
theorem right_end (hp : px ≤ qx) (h5 : 1 ≤ s) : (qx / s, qy / s) ∈ rightCells px py qx qy s := by
  have := col_end (px := px) (py := py) (dx := qx - px) (dy := qy - py) h5
  rw [show px + (qx - px) = qx by omega, show py + (qy - py) = qy by omega] at this
  exact right_mem hp h5 ⟨Int.ediv_le_ediv (by omega) hp, Int.le_refl _⟩ this
theorem right_upright (s : Int) : rightCells px py px qy s = rightCells px qy px py s := by
  unfold rightCells
  congr 1
  funext j
  unfold colOf colLow colHigh
  simp only [show px - px = 0 by omega, if_true]
  rw [show py + (qy - py) = qy by omega, show qy + (py - qy) = py by omega, Int.min_comm, Int.max_comm]
end

section
variable {px py qx qy s : Int} (h : lineOk px py qx qy s = true)
include h
theorem line_size : 1 ≤ s ∧ lineOk qx qy px py s = true := by
  unfold lineOk at h ⊢
  simp only [Bool.and_eq_true] at h ⊢
  exact ⟨(fits_iff.1 h.1.1).1, ⟨h.1.1, h.2⟩, h.1.2⟩
theorem line_cases : (px ≤ qx ∧ lineSeq px py qx qy s = rightCells px py qx qy s) ∨ (qx < px ∧ lineSeq px py qx qy s = rightCells qx qy px py s) := by
  unfold lineSeq
  rw [if_pos h]
  split
  · exact .inr ⟨by assumption, rfl⟩
  · exact .inl ⟨by omega, rfl⟩
theorem line_symm : lineSeq qx qy px py s = lineSeq px py qx qy s := by
  have h' := (line_size h).2
  rcases line_cases h with ⟨a, e⟩ | ⟨a, e⟩ <;> rcases line_cases h' with ⟨b, f⟩ | ⟨b, f⟩
  · obtain rfl : px = qx := by omega
    rw [e, f, right_upright]
  · rw [e, f]
  · rw [e, f]
  · omega
theorem line_nb : Nb (lineSeq px py qx qy s) := by
  have h5 := (line_size h).1
  rcases line_cases h with ⟨a, e⟩ | ⟨a, e⟩
  · rw [e]; exact right_nb a h5
  · rw [e]; exact right_nb (by omega) h5
theorem line_ends : (px / s, py / s) ∈ lineSeq px py qx qy s ∧ (qx / s, qy / s) ∈ lineSeq px py qx qy s := by
  have h5 := (line_size h).1
  rcases line_cases h with ⟨a, e⟩ | ⟨a, e⟩
  · rw [e]; exact ⟨right_begin a h5, right_end a h5⟩
  · rw [e]; exact ⟨right_end (by omega) h5, right_begin (by omega) h5⟩
theorem line_in_box {a : Int × Int} (ha : a ∈ lineSeq px py qx qy s) :
    (min (px / s) (qx / s) ≤ a.1 ∧ a.1 ≤ max (px / s) (qx / s)) ∧ min (py / s) (qy / s) ≤ a.2 ∧ a.2 ≤ max (py / s) (qy / s) := by
  have h5 := (line_size h).1
  rcases line_cases h with ⟨b, e⟩ | ⟨b, e⟩
  · rw [e] at ha
    have := right_in b h5 ha
    have := Int.ediv_le_ediv (show 0 < s by omega) b
    omega
  · rw [e] at ha
    have := right_in (by omega) h5 ha
    have := Int.ediv_le_ediv (show 0 < s by omega) (show qx ≤ px by omega)
    omega
end
end Go.Proofs.Ythagbhiblncpkaa
