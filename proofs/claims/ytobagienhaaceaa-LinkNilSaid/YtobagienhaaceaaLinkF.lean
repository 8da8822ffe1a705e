/-
  wild: what is done with the second line.
-/
import Derived.Test.YtobagienhaaceaaLinkE
namespace Go.Proofs.Ytobagienhaaceaa
open Go.RowKit Go.Shelf
set_option linter.unusedVariables false
attribute [local go_sem] Oper.semAt_some

/-- Of each number of the line how often it may arrive yet; at most N. -/
structure May (L ts : List Int) (N : Nat) : Prop where
  inn : ∀ x, x ∈ L → 0 ≤ x ∧ x < ts.length
  cnt : ∀ j, j < ts.length → (L.count (j : Int) : Int) ≤ ts.getD j 0
  le : ∀ j, j < ts.length → ts.getD j 0 ≤ N

theorem getD_set (l : List Int) (i j : Nat) (v : Int) (hi : i < l.length) : (l.set i v).getD j 0 = if i = j then v else l.getD j 0 := by
  simp only [List.getD_eq_getElem?_getD, List.getElem?_set, hi, if_true]
  split <;> rfl
theorem getD_left (A B : List Int) (i : Nat) (h : i < A.length) : (A ++ B).getD i 0 = A.getD i 0 := by
  simp only [List.getD_eq_getElem?_getD, List.getElem?_append_left h]
theorem getD_last (A : List Int) (x : Int) : (A ++ [x]).getD A.length 0 = x := by simp [List.getD_eq_getElem?_getD]
theorem count_snoc (L : List Int) (x j : Int) : (L ++ [x]).count j = L.count j + (if x = j then 1 else 0) := by
  rw [List.count_append, List.count_cons, List.count_nil]
  by_cases h : x = j
  · rw [if_pos h, if_pos (by simpa using h)]
  · rw [if_neg h, if_neg (by simpa using h)]
theorem count_erase (L : List Int) (k : Nat) (hk : k < L.length) (j : Int) : (L.eraseIdx k).count j + (if L[k] = j then 1 else 0) = L.count j := by
  have h1 : L.take k ++ L[k] :: L.drop (k + 1) = L := by rw [List.getElem_cons_drop, List.take_append_drop]
  have h2 : L.eraseIdx k = L.take k ++ L.drop (k + 1) := List.eraseIdx_eq_take_drop_succ L k
  rw [h2]
  conv => rhs; rw [← h1]
  rw [List.count_append, List.count_append, List.count_cons]
  by_cases h : L[k] = j
  · simp [h]; omega
  · simp [h]
theorem May.at {L ts : List Int} {N k : Nat} (h : May L ts N) (hk : k < L.length) : ∃ j : Nat, L[k] = (j : Int) ∧ j < ts.length ∧ 1 ≤ ts.getD j 0 := by
  obtain ⟨h1, h2⟩ := h.inn L[k] (List.getElem_mem hk)
  refine ⟨L[k].toNat, by omega, by omega, ?_⟩
  have h3 := h.cnt L[k].toNat (by omega)
  have h4 : 0 < L.count L[k] := List.count_pos_iff.2 (List.getElem_mem hk)
  rw [show ((L[k].toNat : Nat) : Int) = L[k] by omega] at h3
  omega
theorem May.take {L ts : List Int} {N k j : Nat} (h : May L ts N) (hk : k < L.length) (hj : L[k] = (j : Int)) (hjt : j < ts.length) : May (L.eraseIdx k) (ts.set j (ts.getD j 0 - 1)) N := by
  refine ⟨fun x hx => ?_, fun i hi => ?_, fun i hi => ?_⟩
  · rw [List.length_set]; exact h.inn x (List.mem_of_mem_eraseIdx hx)
  · rw [List.length_set] at hi
    have h1 := h.cnt i hi
    have h2 := count_erase L k hk (i : Int)
    rw [getD_set _ _ _ _ hjt]
    rw [hj] at h2
    by_cases e : j = i
    · subst e; rw [if_pos rfl]; rw [if_pos rfl] at h2; omega
    · rw [if_neg e]; rw [if_neg (by omega)] at h2; omega
  · rw [List.length_set] at hi
    rw [getD_set _ _ _ _ hjt]
    have := h.le i hi
    split
    · rename_i e; subst e; omega
    · exact this
theorem May.lose {L ts : List Int} {N k : Nat} (h : May L ts N) (hk : k < L.length) : May (L.eraseIdx k) ts N := by
  refine ⟨fun x hx => h.inn x (List.mem_of_mem_eraseIdx hx), fun i hi => ?_, h.le⟩
  have h1 := h.cnt i hi
  have h2 := count_erase L k hk (i : Int)
  split at h2 <;> omega
theorem May.twice {L ts : List Int} {N k j : Nat} (h : May L ts N) (hk : k < L.length) (hj : L[k] = (j : Int)) (hjt : j < ts.length) : May (L ++ [(j : Int)]) (ts.set j (ts.getD j 0 + 1)) (N + 1) := by
  refine ⟨fun x hx => ?_, fun i hi => ?_, fun i hi => ?_⟩
  · rw [List.length_set]
    rcases List.mem_append.1 hx with hx | hx
    · exact h.inn x hx
    · simp at hx; omega
  · rw [List.length_set] at hi
    have h1 := h.cnt i hi
    rw [getD_set _ _ _ _ hjt, count_snoc]
    by_cases e : j = i
    · subst e; rw [if_pos rfl, if_pos rfl]; omega
    · rw [if_neg e, if_neg (by omega)]; omega
  · rw [List.length_set] at hi
    rw [getD_set _ _ _ _ hjt]
    have := h.le i hi
    split
    · rename_i e; subst e; omega
    · omega
theorem May.mono {L ts : List Int} {N M : Nat} (h : May L ts N) (hm : N ≤ M) : May L ts M := ⟨h.inn, h.cnt, fun j hj => by have := h.le j hj; omega⟩
theorem May.put {L ts : List Int} {N : Nat} (h : May L ts N) (hN : 1 ≤ N) : May (L ++ [(ts.length : Int)]) (ts ++ [1]) N := by
  have hz : L.count (ts.length : Int) = 0 := by
    rw [List.count_eq_zero]
    intro hm
    have := (h.inn _ hm).2
    omega
  refine ⟨fun x hx => ?_, fun i hi => ?_, fun i hi => ?_⟩
  · rw [List.length_append]
    rcases List.mem_append.1 hx with hx | hx
    · have := h.inn x hx; simp; omega
    · simp at hx; simp; omega
  · rw [count_snoc]
    by_cases e : i < ts.length
    · rw [getD_left _ _ _ e, if_neg (by omega)]
      have := h.cnt i e
      omega
    · have : i = ts.length := by simp at hi; omega
      subst this
      rw [getD_last, hz, if_pos rfl]
      omega
  · by_cases e : i < ts.length
    · rw [getD_left _ _ _ e]; exact h.le i e
    · have : i = ts.length := by simp at hi; omega
      subst this
      rw [getD_last]; omega

end Go.Proofs.Ytobagienhaaceaa
