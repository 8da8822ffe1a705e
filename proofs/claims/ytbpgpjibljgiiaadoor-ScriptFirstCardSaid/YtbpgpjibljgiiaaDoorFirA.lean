/-
  Script, plain: a fault in the lines with which a text begins stays.
-/
import Derived.Test.YtbpgpjibljgiiaaDoorParB
namespace Go.Proofs.YtbpgpjibljgiiaaDoor
set_option linter.unusedVariables false
set_option linter.unusedSimpArgs false
namespace Sc
theorem goP_line : ∀ (ps : List (List UInt8)) (n : Nat) (cfg : List Int) (L : List St) (f : Flt3), goP n ps cfg L = .error f → n ≤ f.1
  | [], n, cfg, L, f, h => by rw [goP] at h; cases h; exact Nat.le_refl _
  | [l], n, cfg, L, f, h => by rw [goP] at h; cases h; exact Nat.le_refl _
  | l :: m :: r, n, cfg, L, f, h => by
    rw [goP] at h
    split at h
    · split at h
      · cases h; exact Nat.le_refl _
      · split at h
        · cases h
        · cases h; exact Nat.le_succ _
    · split at h
      · cases h; exact Nat.le_refl _
      · have := goP_line (m :: r) (n + 1) _ _ f h
        omega
/-- A fault in one of the first k lines. -/
def hit (k : Nat) : Except Flt3 (List Int × List St) → Option Flt3
  | .error f => if 1 ≤ f.1 ∧ f.1 ≤ k then some f else none
  | .ok _ => none
theorem hit_zero (k : Nat) (c : Int) : hit k (.error (0, 0, c)) = none := by
  have h : ¬ (1 ≤ 0 ∧ 0 ≤ k) := by omega
  unfold hit
  simp only
  rw [if_neg h]
theorem hit_far {n k : Nat} (hn : k < n) (ps : List (List UInt8)) (cfg : List Int) (L : List St) : hit k (fin (goP n ps cfg L)) = none := by
  cases h : goP n ps cfg L with
  | error f =>
    have := goP_line ps n cfg L f h
    show (if 1 ≤ f.1 ∧ f.1 ≤ k then some f else none) = none
    rw [if_neg (by omega)]
  | ok x =>
    obtain ⟨c, l⟩ := x
    by_cases hc : checkE c l = 0
    · rw [fin_ok hc]; rfl
    · rw [fin_bad hc]; exact hit_zero _ _
theorem hit_ok (k : Nat) (x : List Int × List St) : hit k (fin (.ok x)) = none := by
  obtain ⟨c, l⟩ := x
  by_cases hc : checkE c l = 0
  · rw [fin_ok hc]; rfl
  · rw [fin_bad hc]; exact hit_zero _ _
theorem fin_err (f : Flt3) : fin (.error f) = .error f := rfl
theorem hit_same : ∀ (P : List (List UInt8)) (n : Nat) (cfg : List Int) (L : List St) (A B : List (List UInt8)), A ≠ [] → B ≠ [] → 1 ≤ n →
    hit (n - 1 + P.length) (fin (goP n (P ++ A) cfg L)) = hit (n - 1 + P.length) (fin (goP n (P ++ B) cfg L))
  | [], n, cfg, L, A, B, hA, hB, hn => by
    simp only [List.length_nil, Nat.add_zero, List.nil_append]
    rw [hit_far (by omega), hit_far (by omega)]
  | p :: P, n, cfg, L, A, B, hA, hB, hn => by
    have hx : ∀ {X : List (List UInt8)}, X ≠ [] → ∃ m r, P ++ X = m :: r := fun {X} h => List.exists_cons_of_ne_nil (by simp [h])
    obtain ⟨ma, ra, ea⟩ := hx hA
    obtain ⟨mb, rb, eb⟩ := hx hB
    have ih := fun c l => hit_same P (n + 1) c l A B hA hB (by omega)
    rw [ea, eb] at ih
    rw [List.cons_append, List.cons_append, ea, eb, goP, goP]
    by_cases he : 2 < n ∧ fld (lineB p) 0 = endB
    · rw [if_pos he, if_pos he]
      cases ho : overF (lineB p) 1 with
      | some q => rfl
      | none =>
        dsimp only
        cases P with
        | nil =>
          have e1 : hit (n - 1 + [p].length) (fin (.error (n + 1, 0, 283))) = none := by
            show (if 1 ≤ n + 1 ∧ n + 1 ≤ n - 1 + [p].length then _ else none) = none
            rw [if_neg (by simp; omega)]
          have e2 : ∀ c : Prop, ∀ [Decidable c], hit (n - 1 + [p].length) (fin (if c then .ok (cfg, L) else .error (n + 1, 0, 283))) = none := fun c _ => by
            split
            · exact hit_ok _ _
            · exact e1
          rw [e2, e2]
        | cons y P =>
          have e3 : ¬ (ma :: ra = [[]]) := fun q => by
            rw [← ea] at q
            have := congrArg List.length q
            have h2 : 0 < A.length := List.length_pos_iff.2 hA
            rw [List.length_append] at this
            simp only [List.length_cons, List.length_nil] at this
            omega
          have e4 : ¬ (mb :: rb = [[]]) := fun q => by
            rw [← eb] at q
            have := congrArg List.length q
            have h2 : 0 < B.length := List.length_pos_iff.2 hB
            rw [List.length_append] at this
            simp only [List.length_cons, List.length_nil] at this
            omega
          rw [if_neg e3, if_neg e4]
    · rw [if_neg he, if_neg he]
      cases ho : lineF n (lineB p) with
      | some q => rfl
      | none =>
        dsimp only
        rw [show n - 1 + (p :: P).length = n + 1 - 1 + P.length by simp; omega]
        exact ih _ _
/-- Lines as a text. -/
def flat (P : List (List UInt8)) : List UInt8 := P.flatMap fun p => p ++ [10]
theorem pieces_flat : ∀ (P : List (List UInt8)) (x : List UInt8), (∀ p ∈ P, (10 : UInt8) ∉ p) → pieces 10 (flat P ++ x) = P ++ pieces 10 x
  | [], x, h => rfl
  | p :: P, x, h => by
    have := pieces_flat P x (fun q hq => h q (List.mem_cons_of_mem _ hq))
    unfold flat at this ⊢
    rw [List.flatMap_cons, List.append_assoc, List.append_assoc, List.singleton_append, pieces_app _ (h p (by simp)), this]
    rfl
/-- A fault in the first lines stays. -/
theorem first_law (t o : ByteArray) (e : Nat) (P : List (List UInt8)) (x : List UInt8) (hP : ∀ p ∈ P, (10 : UInt8) ∉ p) (he : t.data.toList.take e = flat P) (ho : o.data.toList = t.data.toList.take e ++ x) (h1 : t.size ≤ 4194304) (h2 : o.size ≤ 4194304) :
    hit P.length (parseP t) = hit P.length (parseP o) := by
  have e1 : pieces 10 t.data.toList = P ++ pieces 10 (t.data.toList.drop e) := by
    conv => lhs; rw [← List.take_append_drop e t.data.toList, he]
    exact pieces_flat P _ hP
  have e2 : pieces 10 o.data.toList = P ++ pieces 10 x := by rw [ho, he]; exact pieces_flat P _ hP
  unfold parseP
  rw [if_neg (by omega), if_neg (by omega), e1, e2]
  have := hit_same P 1 zeros [] _ _ (pieces_ne 10 (t.data.toList.drop e)) (pieces_ne 10 x) (Nat.le_refl _)
  simpa using this
end Sc
end Go.Proofs.YtbpgpjibljgiiaaDoor
