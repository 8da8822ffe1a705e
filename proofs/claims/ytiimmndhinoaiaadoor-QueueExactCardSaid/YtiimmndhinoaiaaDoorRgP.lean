/-
  A ring of places: plain laws on lists; its marks. No program in sight.
-/
import Derived.Test.YtiimmndhinoaiaaDoorKit
namespace Go.Proofs.YtiimmndhinoaiaaDoor.ring

/-- The places Cs hold L, from the place f on, round and round. -/
structure Holds {α : Type} (Cs : List α) (f : Nat) (L : List α) : Prop where
  lt : f < Cs.length
  le : L.length ≤ Cs.length
  at_ : ∀ i, i < L.length → Cs[(f + i) % Cs.length]? = L[i]?

theorem mod_ne {N f i j : Nat} (hi : i < N) (hj : j < N) (hn : i ≠ j) : (f + i) % N ≠ (f + j) % N := by
  intro h
  have h1 : (f + i) % N = (f + j) % N := h
  have h2 := Nat.div_add_mod (f + i) N
  have h3 := Nat.div_add_mod (f + j) N
  rcases Nat.lt_or_ge ((f + i) / N) ((f + j) / N) with h4 | h4
  · have : N * ((f + i) / N + 1) ≤ N * ((f + j) / N) := Nat.mul_le_mul_left N h4
    rw [Nat.mul_add, Nat.mul_one] at this
    omega
  · rcases Nat.lt_or_ge ((f + j) / N) ((f + i) / N) with h5 | h5
    · have : N * ((f + j) / N + 1) ≤ N * ((f + i) / N) := Nat.mul_le_mul_left N h5
      rw [Nat.mul_add, Nat.mul_one] at this
      omega
    · have : (f + i) / N = (f + j) / N := by omega
      rw [this] at h2
      omega

section
variable {α : Type} {Cs L : List α} {f : Nat}
theorem Holds.push (h : Holds Cs f L) (hl : L.length < Cs.length) (x : α) : Holds (Cs.set ((f + L.length) % Cs.length) x) f (L ++ [x]) := by
  refine ⟨by rw [List.length_set]; exact h.lt, by rw [List.length_set, List.length_append]; simp; omega, fun i hi => ?_⟩
  rw [List.length_set, List.getElem?_set]
  by_cases e : i = L.length
  · subst e
    rw [if_pos rfl, if_pos (Nat.mod_lt _ (by omega))]
    simp
  · have hi2 : i < L.length := by simp at hi; omega
    rw [if_neg (Ne.symm (mod_ne (by omega) hl e)), h.at_ i hi2, List.getElem?_append_left hi2]
theorem Holds.fresh (L : List α) (z : α) (N : Nat) (h1 : 0 < N) (h2 : L.length ≤ N) : Holds (L ++ List.replicate (N - L.length) z) 0 L := by
  have hl : (L ++ List.replicate (N - L.length) z).length = N := by simp; omega
  refine ⟨by omega, by omega, fun i hi => ?_⟩
  rw [hl, Nat.zero_add, Nat.mod_eq_of_lt (by omega), List.getElem?_append_left hi]
theorem Holds.empty (Cs : List α) (h : 0 < Cs.length) : Holds Cs 0 [] := ⟨h, by simp, fun i hi => by simp at hi⟩
/-- Places from the first one on are written over. -/
def wipe (Cs : List α) (f : Nat) (z : α) : Nat → List α
  | 0 => Cs
  | n + 1 => (wipe Cs f z n).set ((f + n) % Cs.length) z
theorem wipe_len (Cs : List α) (f : Nat) (z : α) (n : Nat) : (wipe Cs f z n).length = Cs.length := by
  induction n with
  | zero => rfl
  | succ n ih => rw [wipe, List.length_set, ih]
theorem wipe_at (Cs : List α) (f : Nat) (z : α) (n i : Nat) (hn : n ≤ i) (hi : i < Cs.length) : (wipe Cs f z n)[(f + i) % Cs.length]? = Cs[(f + i) % Cs.length]? := by
  induction n with
  | zero => rfl
  | succ n ih => rw [wipe, List.getElem?_set_ne (mod_ne (by omega) hi (by omega)), ih (by omega)]
theorem Holds.drop (h : Holds Cs f L) (z : α) (n : Nat) (hn : n ≤ L.length) : Holds (wipe Cs f z n) ((f + n) % Cs.length) (L.drop n) := by
  have hpos : 0 < Cs.length := by have := h.lt; omega
  refine ⟨by rw [wipe_len]; exact Nat.mod_lt _ hpos, by rw [wipe_len, List.length_drop]; have := h.le; omega, fun i hi => ?_⟩
  rw [List.length_drop] at hi
  have hle := h.le
  rw [wipe_len, show ((f + n) % Cs.length + i) % Cs.length = (f + (n + i)) % Cs.length by rw [Nat.mod_add_mod, Nat.add_assoc], wipe_at _ _ _ _ _ (by omega) (by omega), h.at_ _ (by omega), List.getElem?_drop]
theorem Holds.set (h : Holds Cs f L) (i : Nat) (hi : i < L.length) (x : α) : Holds (Cs.set ((f + i) % Cs.length) x) f (L.set i x) := by
  have hle := h.le
  refine ⟨by rw [List.length_set]; exact h.lt, by rw [List.length_set, List.length_set]; exact hle, fun k hk => ?_⟩
  rw [List.length_set] at hk
  rw [List.length_set, List.getElem?_set, List.getElem?_set]
  by_cases e : i = k
  · subst e
    rw [if_pos rfl, if_pos (Nat.mod_lt _ (by omega)), if_pos rfl, if_pos hk]
  · rw [if_neg (mod_ne (by omega) (by omega) e), if_neg e, h.at_ k hk]
/-- The last one is taken off. -/
theorem Holds.last {x : α} (h : Holds Cs f (L ++ [x])) (z : α) : Holds (Cs.set ((f + L.length) % Cs.length) z) f L := by
  have hle := h.le
  rw [List.length_append, List.length_singleton] at hle
  refine ⟨by rw [List.length_set]; exact h.lt, by rw [List.length_set]; omega, fun k hk => ?_⟩
  rw [List.length_set, List.getElem?_set_ne (mod_ne (by omega) (by omega) (by omega)), h.at_ k (by simp; omega), List.getElem?_append_left hk]
/-- The list while one is cut out: the ones up to k are moved. -/
def shl (L : List α) (i k : Nat) : List α := (L.eraseIdx i).take (k - 1) ++ L.drop (k - 1)
theorem shl_len (L : List α) (i k : Nat) (hi : i < L.length) (hk : k ≤ L.length) : (shl L i k).length = L.length := by
  unfold shl
  rw [List.length_append, List.length_take, List.length_drop, List.length_eraseIdx_of_lt hi]
  omega
theorem shl_start (L : List α) (i : Nat) : shl L i (i + 1) = L := by
  unfold shl
  rw [Nat.add_sub_cancel, List.eraseIdx_eq_take_drop_succ]
  have : (L.take i ++ L.drop (i + 1)).take i = L.take i := by
    by_cases h : i ≤ L.length
    · rw [List.take_append_of_le_length (by rw [List.length_take]; omega), List.take_take, Nat.min_self]
    · rw [List.drop_eq_nil_of_le (show L.length ≤ i + 1 by omega), List.append_nil, List.take_take, Nat.min_self]
  rw [this]
  exact List.take_append_drop i L
theorem shl_get (L : List α) (i k : Nat) (h1 : i < k) (hk : k < L.length) : (shl L i k)[k]? = L[k]? := by
  unfold shl
  rw [List.getElem?_append_right (by rw [List.length_take, List.length_eraseIdx_of_lt (by omega)]; omega), List.length_take, List.length_eraseIdx_of_lt (by omega), Nat.min_eq_left (by omega), List.getElem?_drop]
  congr 1
  omega
theorem shl_step (L : List α) (i k : Nat) (h1 : i < k) (hk : k < L.length) {y : α} (hy : L[k]? = some y) : (shl L i k).set (k - 1) y = shl L i (k + 1) := by
  obtain ⟨hk2, rfl⟩ := List.getElem?_eq_some_iff.1 hy
  unfold shl
  have hl : ((L.eraseIdx i).take (k - 1)).length = k - 1 := by rw [List.length_take, List.length_eraseIdx_of_lt (by omega)]; omega
  rw [List.set_append_right _ _ (by omega), hl, Nat.sub_self, Nat.add_sub_cancel]
  have hd : L.drop (k - 1) = L[k - 1] :: L.drop k := by
    have := List.drop_eq_getElem_cons (l := L) (i := k - 1) (by omega)
    rw [this, show k - 1 + 1 = k by omega]
  rw [hd, List.set_cons_zero]
  have he : (L.eraseIdx i).take k = (L.eraseIdx i).take (k - 1) ++ [L[k]] := by
    have hkl : k - 1 < (L.eraseIdx i).length := by rw [List.length_eraseIdx_of_lt (by omega)]; omega
    have := List.take_succ_eq_append_getElem hkl
    rw [show k - 1 + 1 = k by omega] at this
    rw [this, List.getElem_eraseIdx_of_ge _ (by omega)]
    simp [show k - 1 + 1 = k by omega]
  rw [he, List.append_assoc, List.singleton_append]
theorem shl_end (L : List α) (i : Nat) (hi : i < L.length) : ∃ y, shl L i L.length = L.eraseIdx i ++ [y] := by
  have hl : (L.eraseIdx i).length = L.length - 1 := List.length_eraseIdx_of_lt hi
  refine ⟨L[L.length - 1], ?_⟩
  unfold shl
  rw [List.take_of_length_le (by omega)]
  congr 1
  have := List.drop_eq_getElem_cons (l := L) (i := L.length - 1) (by omega)
  rw [this, List.drop_eq_nil_of_le (by omega)]
end

/-- What a ring has besides its values. -/
structure RM where
  most : Nat
  on : Bool
  lo : Int
  hi : Int
  pr : Bool
  pk : Nat
  rf : Int
def prs (M : RM) (n : Nat) : Bool := if M.on = true then (if M.hi ≤ n then true else if (n : Int) ≤ M.lo then false else M.pr) else M.pr
def RM.sized (M : RM) (n : Nat) : RM := { M with pk := max M.pk n, pr := prs M n }
def RM.ref (M : RM) : RM := { M with rf := M.rf + 1 }
def RM.mark (M : RM) (lo hi : Int) (n : Nat) : RM := { M with on := true, lo := lo, hi := hi, pr := decide (hi ≤ n) }
def RM.bad (M : RM) (lo hi : Int) : Prop := lo < 0 ∨ hi ≤ lo ∨ (M.most : Int) < hi
def RM.new (most : Nat) : RM := ⟨most, false, 0, 0, false, 0, 0⟩

end Go.Proofs.YtiimmndhinoaiaaDoor.ring
