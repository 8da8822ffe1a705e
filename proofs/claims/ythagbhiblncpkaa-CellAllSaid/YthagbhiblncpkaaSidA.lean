/-
  Plain: a list of columns, each from low to high, the next one beside it: its neighbours.
-/
import Derived.Test.YthagbhiblncpkaaCellI
namespace Go.Proofs.Ythagbhiblncpkaa
set_option linter.unusedVariables false

section
variable (lo hi : Nat → Int) (c0 : Int)
/-- Where a column begins. -/
def off : Nat → Nat
  | 0 => 0
  | j + 1 => off j + (hi j + 1 - lo j).toNat
def colsUp (n : Nat) : List (Int × Int) := rowsUp (fun j => colCells (lo j) (hi j) (c0 + (j : Int))) n
theorem colsUp_len (n : Nat) : (colsUp lo hi c0 n).length = off lo hi n := by
  induction n with
  | zero => rfl
  | succ n ih =>
    unfold colsUp at *
    rw [rowsUp_succ, List.length_append, ih, colCells_len]
    rfl
theorem off_mono {i j : Nat} (h : i ≤ j) : off lo hi i ≤ off lo hi j := by
  induction h with
  | refl => exact Nat.le_refl _
  | step _ ih => exact Nat.le_trans ih (Nat.le_add_right _ _)
theorem colsUp_at (n : Nat) : ∀ j k, j < n → k < (hi j + 1 - lo j).toNat → (colsUp lo hi c0 n)[off lo hi j + k]? = some (c0 + (j : Int), lo j + (k : Int)) := by
  induction n with
  | zero => intro j k h; omega
  | succ n ih =>
    intro j k hj hk
    have hl := colsUp_len lo hi c0 n
    unfold colsUp at *
    rw [rowsUp_succ]
    rcases Nat.lt_or_ge j n with h | h
    · have : off lo hi j + k < off lo hi n := Nat.lt_of_lt_of_le (show off lo hi j + k < off lo hi (j + 1) from Nat.add_lt_add_left hk _) (off_mono lo hi h)
      rw [List.getElem?_append_left (by omega)]
      exact ih j k h hk
    · obtain rfl : j = n := by omega
      rw [List.getElem?_append_right (by omega), hl, show off lo hi j + k - off lo hi j = k by omega]
      unfold colCells
      rw [List.getElem?_map, List.getElem?_range hk]
      rfl
theorem off_find (n : Nat) : ∀ i, i < off lo hi n → ∃ j k, j < n ∧ k < (hi j + 1 - lo j).toNat ∧ i = off lo hi j + k := by
  induction n with
  | zero => intro i h; exact absurd h (Nat.not_lt_zero _)
  | succ n ih =>
    intro i h
    rcases Nat.lt_or_ge i (off lo hi n) with h1 | h1
    · obtain ⟨j, k, a, b, c⟩ := ih i h1
      exact ⟨j, k, by omega, b, c⟩
    · exact ⟨n, i - off lo hi n, by omega, by simp only [off] at h; omega, by omega⟩

/-- Neighbours: what 'side' asks of a list. -/
structure Nb (L : List (Int × Int)) : Prop where
  next : ∀ i a b, L[i]? = some a → L[i + 1]? = some b → (b.1 = a.1 ∧ b.2 = a.2 + 1) ∨ (b.1 = a.1 + 1 ∧ b.2 ≤ a.2 + 1)
  wide : ∀ l i t a b p q, l ≤ i → i < t → L[l]? = some a → L[i]? = some p → L[i + 1]? = some q → L[t]? = some b → a.1 = p.1 → b.1 = q.1 → q.1 = p.1 + 1 →
    (∀ z, L[t + 1]? = some z → z.1 ≠ b.1) → (∀ m z, l = m + 1 → L[m]? = some z → z.1 ≠ a.1) → a.2 ≤ b.2 + 1

theorem nb_cols (n : Nat) (hlh : ∀ j, j < n → lo j ≤ hi j) (h1 : ∀ j, j + 1 < n → lo (j + 1) ≤ hi j + 1) (h2 : ∀ j, j + 1 < n → lo j ≤ hi (j + 1) + 1) : Nb (colsUp lo hi c0 n) := by
  have hl := colsUp_len lo hi c0 n
  have hat := colsUp_at lo hi c0 n
  have hfind := off_find lo hi n
  have hget : ∀ i a, (colsUp lo hi c0 n)[i]? = some a → ∃ j k, j < n ∧ k < (hi j + 1 - lo j).toNat ∧ i = off lo hi j + k ∧ a = (c0 + (j : Int), lo j + (k : Int)) := by
    intro i a h
    have hi' : i < (colsUp lo hi c0 n).length := (List.getElem?_eq_some_iff.1 h).1
    obtain ⟨j, k, x, y, z⟩ := hfind i (by omega)
    refine ⟨j, k, x, y, z, ?_⟩
    rw [z, hat j k x y] at h
    exact (Option.some.inj h).symm
  constructor
  · intro i a b ha hb
    obtain ⟨j, k, x, y, rfl, rfl⟩ := hget i a ha
    rcases Nat.lt_or_ge (k + 1) (hi j + 1 - lo j).toNat with h | h
    · rw [Nat.add_assoc, hat j (k + 1) x h] at hb
      cases hb
      exact .inl ⟨rfl, by simp; omega⟩
    · have hb' := (List.getElem?_eq_some_iff.1 hb).1
      have e : off lo hi j + k + 1 = off lo hi (j + 1) + 0 := by simp only [off]; omega
      have hj : j + 1 < n := by
        rcases Nat.lt_or_ge (j + 1) n with c | c
        · exact c
        · obtain rfl : j + 1 = n := by omega
          omega
      have hk0 : 0 < (hi (j + 1) + 1 - lo (j + 1)).toNat := by have := hlh (j + 1) hj; omega
      rw [e, hat (j + 1) 0 hj hk0] at hb
      cases hb
      have := h1 j hj
      have := hlh j x
      exact .inr ⟨by simp; omega, by simp; omega⟩
  · intro l i t a b p q hli hit ha hp hq hb e1 e2 e3 hend hbeg
    obtain ⟨j, k, x, y, rfl, rfl⟩ := hget l a ha
    obtain ⟨j2, k2, x2, y2, rfl, rfl⟩ := hget i p hp
    obtain ⟨j3, k3, x3, y3, e, rfl⟩ := hget _ q hq
    obtain ⟨j4, k4, x4, y4, rfl, rfl⟩ := hget t b hb
    simp only at e1 e2 e3
    obtain rfl : j = j2 := by omega
    obtain rfl : j4 = j3 := by omega
    obtain rfl : j4 = j + 1 := by omega
    have hk : k = 0 := by
      rcases Nat.eq_zero_or_pos k with h | h
      · exact h
      · exact absurd rfl (hbeg (off lo hi j + (k - 1)) (c0 + (j : Int), lo j + ((k - 1 : Nat) : Int)) (by omega) (hat j (k - 1) x (by omega)))
    have hk4 : k4 + 1 = (hi (j + 1) + 1 - lo (j + 1)).toNat := by
      rcases Nat.lt_or_ge (k4 + 1) (hi (j + 1) + 1 - lo (j + 1)).toNat with h | h
      · exact absurd rfl (hend (c0 + ((j + 1 : Nat) : Int), lo (j + 1) + ((k4 + 1 : Nat) : Int)) (by rw [Nat.add_assoc]; exact hat (j + 1) (k4 + 1) x4 h))
      · omega
    have := h2 j x4
    simp only
    subst hk
    have := hlh (j + 1) x4
    simp only [Int.natCast_zero]
    omega
end
end Go.Proofs.Ythagbhiblncpkaa
