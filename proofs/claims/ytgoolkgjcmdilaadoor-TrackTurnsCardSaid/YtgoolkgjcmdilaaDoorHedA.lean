/-
  Headings, plainly: of eight directions the one that a move goes in; turned about, turned by a quarter.
-/
namespace Hed

/-- Nearer to the first axis than to the diagonal. -/
def flatB (a b : Nat) : Bool := decide (b < a) && decide (2 * (b * b) < (a - b) * (a - b))
/-- The heading of a move. -/
def head (dx dy : Int) : Int :=
  if dx = 0 ∧ dy = 0 then -1 else
  if flatB dx.natAbs dy.natAbs = true then (if 0 < dx then 0 else 4) else
  if flatB dy.natAbs dx.natAbs = true then (if 0 < dy then 2 else 6) else
  if 0 < dy then (if 0 < dx then 1 else 3) else (if 0 < dx then 7 else 5)
theorem flat_zero {a : Nat} (h : a ≠ 0) : flatB a 0 = true := by
  unfold flatB
  have h1 : 0 < a := by omega
  have h2 : 0 < a * a := Nat.mul_pos h1 h1
  simp [h1, h2]
theorem flat_not {a b : Nat} (h : flatB a b = true) : flatB b a = false ∧ a ≠ 0 := by
  unfold flatB at h ⊢
  simp only [Bool.and_eq_true, decide_eq_true_eq] at h
  have : ¬ a < b := by omega
  simp only [decide_eq_false this, Bool.false_and, true_and]
  omega
theorem head_none {dx dy : Int} (h : dx = 0 ∧ dy = 0) : head dx dy = -1 := by unfold head; rw [if_pos h]
/-- The five cases of a move that goes somewhere. -/
theorem head_case {dx dy : Int} (h : ¬ (dx = 0 ∧ dy = 0)) :
    (flatB dx.natAbs dy.natAbs = true ∧ dx ≠ 0 ∧ head dx dy = if 0 < dx then 0 else 4) ∨
    (flatB dx.natAbs dy.natAbs = false ∧ flatB dy.natAbs dx.natAbs = true ∧ dy ≠ 0 ∧ head dx dy = if 0 < dy then 2 else 6) ∨
    (flatB dx.natAbs dy.natAbs = false ∧ flatB dy.natAbs dx.natAbs = false ∧ dx ≠ 0 ∧ dy ≠ 0 ∧ head dx dy = if 0 < dy then (if 0 < dx then 1 else 3) else (if 0 < dx then 7 else 5)) := by
  unfold head
  rw [if_neg h]
  cases h1 : flatB dx.natAbs dy.natAbs with
  | true =>
    have := (flat_not h1).2
    exact .inl ⟨rfl, by omega, by rw [if_pos rfl]⟩
  | false =>
    refine .inr ?_
    cases h2 : flatB dy.natAbs dx.natAbs with
    | true =>
      have := (flat_not h2).2
      exact .inl ⟨rfl, rfl, by omega, by rw [if_neg (by decide), if_pos rfl]⟩
    | false =>
      refine .inr ⟨rfl, rfl, ?_, ?_, by rw [if_neg (by decide), if_neg (by decide)]⟩
      · intro h3
        rw [h3, show (0 : Int).natAbs = 0 from rfl, flat_zero (by omega)] at h2
        cases h2
      · intro h3
        rw [h3, show (0 : Int).natAbs = 0 from rfl, flat_zero (by omega)] at h1
        cases h1
theorem head_range {dx dy : Int} (h : ¬ (dx = 0 ∧ dy = 0)) : 0 ≤ head dx dy ∧ head dx dy ≤ 7 := by
  rcases head_case h with ⟨_, _, e⟩ | ⟨_, _, _, e⟩ | ⟨_, _, _, _, e⟩
  · rw [e]; split <;> omega
  · rw [e]; split <;> omega
  · rw [e]; repeat' split
    all_goals omega
/-- Turned about: by four. -/
theorem head_about {dx dy : Int} (h : ¬ (dx = 0 ∧ dy = 0)) : head (-dx) (-dy) = (head dx dy + 4) % 8 := by
  have h' : ¬ (-dx = 0 ∧ -dy = 0) := by omega
  rcases head_case h with ⟨a, b, e⟩ | ⟨a, b, c, e⟩ | ⟨a, b, c, d, e⟩ <;> rcases head_case h' with ⟨a', b', e'⟩ | ⟨a', b', c', e'⟩ | ⟨a', b', c', d', e'⟩ <;> rw [Int.natAbs_neg, Int.natAbs_neg] at a' <;> try rw [Int.natAbs_neg, Int.natAbs_neg] at b'
  all_goals first
    | exact absurd (a.symm.trans a') (by decide)
    | exact absurd (b.symm.trans b') (by decide)
    | (rw [e, e']
       repeat' split
       all_goals omega)
/-- Turned by a quarter: by two. -/
theorem head_quarter {dx dy : Int} (h : ¬ (dx = 0 ∧ dy = 0)) : head (-dy) dx = (head dx dy + 2) % 8 := by
  have h' : ¬ (-dy = 0 ∧ dx = 0) := by omega
  rcases head_case h with ⟨a, b, e⟩ | ⟨a, b, c, e⟩ | ⟨a, b, c, d, e⟩ <;> rcases head_case h' with ⟨a', b', e'⟩ | ⟨a', b', c', e'⟩ | ⟨a', b', c', d', e'⟩ <;> rw [Int.natAbs_neg] at a' <;> try rw [Int.natAbs_neg] at b'
  all_goals first
    | exact absurd (a.symm.trans b') (by decide)
    | exact absurd (b.symm.trans a') (by decide)
    | exact absurd ((flat_not a).1.symm.trans a') (by decide)
    | exact absurd (a.symm.trans b') (by decide)
    | (rw [e, e']
       repeat' split
       all_goals omega)
end Hed
