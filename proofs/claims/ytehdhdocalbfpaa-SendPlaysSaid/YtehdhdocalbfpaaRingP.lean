/-
  A ring of places: plain laws on lists; no program in sight.
-/
namespace Go.Proofs.Ytehdhdocalbfpaa.ring

/-- The places Cs hold L, from the place f on, round and round. -/
structure Holds {α : Type} (Cs : List α) (f : Nat) (L : List α) : Prop where
  lt : f < Cs.length
  le : L.length ≤ Cs.length
  at_ : ∀ i, i < L.length → Cs[(f + i) % Cs.length]? = L[i]?

theorem mod_ne {N f i j : Nat} (hi : i < N) (hj : j < N) (hn : i ≠ j) : (f + i) % N ≠ (f + j) % N := by
  intro h
  have h1 : (f + i) % N = (f + j) % N := h
  have h2 := Nat.div_add_mod (f + i) N
  have h3 := Nat.div_add_mod (f + j) N
  rcases Nat.lt_or_ge ((f + i) / N) ((f + j) / N) with h4 | h4
  · have : N * ((f + i) / N + 1) ≤ N * ((f + j) / N) := Nat.mul_le_mul_left N h4
    rw [Nat.mul_add, Nat.mul_one] at this
    omega
  · rcases Nat.lt_or_ge ((f + j) / N) ((f + i) / N) with h5 | h5
    · have : N * ((f + j) / N + 1) ≤ N * ((f + i) / N) := Nat.mul_le_mul_left N h5
      rw [Nat.mul_add, Nat.mul_one] at this
      omega
    · have : (f + i) / N = (f + j) / N := by omega
      rw [this] at h2
      omega

section
variable {α : Type} {Cs L : List α} {f : Nat}
theorem Holds.push (h : Holds Cs f L) (hl : L.length < Cs.length) (x : α) : Holds (Cs.set ((f + L.length) % Cs.length) x) f (L ++ [x]) := by
  refine ⟨by rw [List.length_set]; exact h.lt, by rw [List.length_set, List.length_append]; simp; omega, fun i hi => ?_⟩
  rw [List.length_set, List.getElem?_set]
  by_cases e : i = L.length
  · subst e
    rw [if_pos rfl, if_pos (Nat.mod_lt _ (by omega))]
    simp
  · have hi2 : i < L.length := by simp at hi; omega
    rw [if_neg (Ne.symm (mod_ne (by omega) hl e)), h.at_ i hi2, List.getElem?_append_left hi2]
theorem Holds.fresh (L : List α) (z : α) (N : Nat) (h1 : 0 < N) (h2 : L.length ≤ N) : Holds (L ++ List.replicate (N - L.length) z) 0 L := by
  have hl : (L ++ List.replicate (N - L.length) z).length = N := by simp; omega
  refine ⟨by omega, by omega, fun i hi => ?_⟩
  rw [hl, Nat.zero_add, Nat.mod_eq_of_lt (by omega), List.getElem?_append_left hi]
theorem Holds.empty (Cs : List α) (h : 0 < Cs.length) : Holds Cs 0 [] := ⟨h, by simp, fun i hi => by simp at hi⟩
/-- Places from the first one on are written over. -/
def wipe (Cs : List α) (f : Nat) (z : α) : Nat → List α
  | 0 => Cs
  | n + 1 => (wipe Cs f z n).set ((f + n) % Cs.length) z
theorem wipe_len (Cs : List α) (f : Nat) (z : α) (n : Nat) : (wipe Cs f z n).length = Cs.length := by
  induction n with
  | zero => rfl
  | succ n ih => rw [wipe, List.length_set, ih]
theorem wipe_at (Cs : List α) (f : Nat) (z : α) (n i : Nat) (hn : n ≤ i) (hi : i < Cs.length) : (wipe Cs f z n)[(f + i) % Cs.length]? = Cs[(f + i) % Cs.length]? := by
  induction n with
  | zero => rfl
  | succ n ih => rw [wipe, List.getElem?_set_ne (mod_ne (by omega) hi (by omega)), ih (by omega)]
theorem Holds.drop (h : Holds Cs f L) (z : α) (n : Nat) (hn : n ≤ L.length) : Holds (wipe Cs f z n) ((f + n) % Cs.length) (L.drop n) := by
  have hpos : 0 < Cs.length := by have := h.lt; omega
  refine ⟨by rw [wipe_len]; exact Nat.mod_lt _ hpos, by rw [wipe_len, List.length_drop]; have := h.le; omega, fun i hi => ?_⟩
  rw [List.length_drop] at hi
  have hle := h.le
  rw [wipe_len, show ((f + n) % Cs.length + i) % Cs.length = (f + (n + i)) % Cs.length by rw [Nat.mod_add_mod, Nat.add_assoc], wipe_at _ _ _ _ _ (by omega) (by omega), h.at_ _ (by omega), List.getElem?_drop]
end

end Go.Proofs.Ytehdhdocalbfpaa.ring
