/-
  What is answered twice is alike: of the same parts, or of such as are no numbers both.
-/
import Derived.Test.YtkbcdfniocmamaaMapF
namespace Go.Proofs.Ytkbcdfniocmamaa
open Go.RowKit Flo
set_option linter.unusedVariables false
section
variable {a b c d r i a' b' c' d' r' i' : Nat}
theorem TimesR.fe (ha : FE a a') (hb : FE b b') (hc : FE c c') (hd : FE d d') (h : TimesR a b c d r i) (k : TimesR a' b' c' d' r' i') : FE r r' ∧ FE i i' := by
  obtain ⟨p, q, s, t, h1, h2, h3, h4, h5, h6⟩ := h
  obtain ⟨p', q', s', t', k1, k2, k3, k4, k5, k6⟩ := k
  exact ⟨sub_fe (mul_fe ha hc h1 k1) (mul_fe hb hd h2 k2) h3 k3, add_fe (mul_fe ha hd h4 k4) (mul_fe hb hc h5 k5) h6 k6⟩
theorem PlusR.fe (ha : FE a a') (hb : FE b b') (hc : FE c c') (hd : FE d d') (h : PlusR a b c d r i) (k : PlusR a' b' c' d' r' i') : FE r r' ∧ FE i i' :=
  ⟨add_fe ha hc h.1 k.1, add_fe hb hd h.2 k.2⟩
theorem MinusR.fe (ha : FE a a') (hb : FE b b') (hc : FE c c') (hd : FE d d') (h : MinusR a b c d r i) (k : MinusR a' b' c' d' r' i') : FE r r' ∧ FE i i' :=
  ⟨sub_fe ha hc h.1 k.1, sub_fe hb hd h.2 k.2⟩
theorem SquareR.fe (ha : FE a a') (hb : FE b b') (h : SquareR a b r) (k : SquareR a' b' r') : FE r r' := by
  obtain ⟨p, q, h1, h2, h3⟩ := h
  obtain ⟨p', q', k1, k2, k3⟩ := k
  exact add_fe (mul_fe ha ha h1 k1) (mul_fe hb hb h2 k2) h3 k3
theorem ByR.fe (ha : FE a a') (hb : FE b b') (hc : FE c c') (hd : FE d d') (h : ByR a b c d r i) (k : ByR a' b' c' d' r' i') : FE r r' ∧ FE i i' := by
  obtain ⟨m, p, q, s, t, u, v, h0, h1, h2, h3, h4, h5, h6, h7, h8⟩ := h
  obtain ⟨m', p', q', s', t', u', v', k0, k1, k2, k3, k4, k5, k6, k7, k8⟩ := k
  have hm := SquareR.fe hc hd h0 k0
  exact ⟨div_fe (add_fe (mul_fe ha hc h1 k1) (mul_fe hb hd h2 k2) h3 k3) hm h7 k7, div_fe (sub_fe (mul_fe hb hc h4 k4) (mul_fe ha hd h5 k5) h6 k6) hm h8 k8⟩
end
theorem ApplyR.fe {a b c d z y r i r' i' : Nat} (h : ApplyR a b c d z y r i) (k : ApplyR a b c d z y r' i') : FE r r' ∧ FE i i' := by
  obtain ⟨p, q, h1, h2⟩ := h
  obtain ⟨p', q', k1, k2⟩ := k
  have h3 := TimesR.fe (.refl _) (.refl _) (.refl _) (.refl _) h1 k1
  exact PlusR.fe h3.1 h3.2 (.refl _) (.refl _) h2 k2
theorem ThenR.fe {a b c d e f g h x y u v x' y' u' v' : Nat} (H : ThenR a b c d e f g h x y u v) (K : ThenR a b c d e f g h x' y' u' v') : FE x x' ∧ FE y y' ∧ FE u u' ∧ FE v v' := by
  obtain ⟨h0, p, q, h1, h2⟩ := H
  obtain ⟨k0, p', q', k1, k2⟩ := K
  have h3 := TimesR.fe (.refl _) (.refl _) (.refl _) (.refl _) h1 k1
  have h4 := TimesR.fe (.refl _) (.refl _) (.refl _) (.refl _) h0 k0
  have h5 := PlusR.fe h3.1 h3.2 (.refl _) (.refl _) h2 k2
  exact ⟨h4.1, h4.2, h5.1, h5.2⟩
theorem BackR.fe {a b c d x y u v x' y' u' v' : Nat} (H : BackR a b c d x y u v) (K : BackR a b c d x' y' u' v') : FE x x' ∧ FE y y' ∧ FE u u' ∧ FE v v' := by
  obtain ⟨h0, p, q, h1, h2⟩ := H
  obtain ⟨k0, p', q', k1, k2⟩ := K
  have h4 := ByR.fe (.refl _) (.refl _) (.refl _) (.refl _) h0 k0
  have h3 := TimesR.fe h4.1 h4.2 (.refl _) (.refl _) h1 k1
  have h5 := MinusR.fe (.refl _) (.refl _) h3.1 h3.2 h2 k2
  exact ⟨h4.1, h4.2, h5.1, h5.2⟩
theorem alikeB2_fe {a b c d : Nat} (h : FE a c ∧ FE b d) : (alikeB a c && alikeB b d) = true := by rw [alikeB_fe h.1, alikeB_fe h.2]; rfl
theorem mapB_fe {a b c d a' b' c' d' : Nat} (h : FE a a' ∧ FE b b' ∧ FE c c' ∧ FE d d') : mapB a b c d a' b' c' d' = true := by
  unfold mapB
  rw [alikeB_fe h.1, alikeB_fe h.2.1, alikeB_fe h.2.2.1, alikeB_fe h.2.2.2]; rfl
/-- Two squares of the same: the same answer whether it can be undone. -/
theorem flat_same {a b c d q q' : Nat} (h : SquareR a b q) (h' : SquareR a b q') : flatB a b c d q = flatR a b c d q' := by
  rw [flat_eq h]
  unfold flatR
  cases h1 : finB a
  · rfl
  · cases h2 : finB b
    · rfl
    · have e : q = q' := by
        rcases SquareR.fe (.refl _) (.refl _) h h' with e | e
        · exact e
        · obtain ⟨x, y, hx, hy, hq⟩ := h
          rw [nan_sum (nn_square h1 hx) (nn_square h2 hy) hq] at e
          cases e.1
      rw [e]
end Go.Proofs.Ytkbcdfniocmamaa
