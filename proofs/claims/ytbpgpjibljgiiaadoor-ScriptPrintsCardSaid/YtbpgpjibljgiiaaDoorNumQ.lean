/-
  Script, plain: how the document reads a number's text.
-/
import Derived.Test.YtbpgpjibljgiiaaDoorRefN
namespace Go.Proofs.YtbpgpjibljgiiaaDoor
set_option linter.unusedVariables false
set_option linter.unusedSimpArgs false
namespace Sc
open Lib (decDigits itoa)
def evalD : Nat → List UInt8 → Option Nat
  | a, [] => some a
  | a, c :: l => if c.toNat < 48 ∨ 57 < c.toNat then none else evalD (10 * a + (c.toNat - 48)) l
theorem evalD_app (c : UInt8) : ∀ (l : List UInt8) (a : Nat), evalD a (l ++ [c]) = (evalD a l).bind fun b => if c.toNat < 48 ∨ 57 < c.toNat then none else some (10 * b + (c.toNat - 48))
  | [], a => by simp [evalD]
  | x :: l, a => by
    rw [List.cons_append, evalD, evalD]
    split
    · rfl
    · exact evalD_app c l _
theorem evalD_dd : ∀ (u : Nat), evalD 0 (decDigits u) = some u := by
  intro u
  induction u using Nat.strongRecOn with
  | _ u ih =>
    by_cases h : u < 10
    · rw [dd_small h, evalD, dg_nat h, if_neg (by omega), evalD]
      simp
    · rw [dd_big h, evalD_app, ih (u / 10) (by omega), Option.bind_some, dg_nat (by omega), if_neg (by omega)]
      congr 1
      omega
/-- What stands behind the sign. -/
def signOff (l : List UInt8) : List UInt8 := match l with
  | 45 :: r => r
  | _ => l
def isNeg (l : List UInt8) : Bool := match l with
  | 45 :: _ => true
  | _ => false
theorem sign_itoa {x : Int} : isNeg (itoa x) = decide (x < 0) ∧ signOff (itoa x) = decDigits x.natAbs := by
  unfold itoa
  by_cases h : x < 0
  · rw [if_pos h]
    exact ⟨(decide_eq_true h).symm, rfl⟩
  · rw [if_neg h, show x.toNat = x.natAbs by omega]
    constructor
    · rw [decide_eq_false h]
      unfold isNeg
      split
      · rename_i r hr
        exact absurd hr dd_not45
      · rfl
    · unfold signOff
      split
      · rename_i r hr
        exact absurd hr dd_not45
      · rfl
theorem scan_bad_len {l : List UInt8} (h : (signOff l).length = 0 ∨ 19 < (signOff l).length) : scan l = none := by
  cases hs : scan l with
  | none => rfl
  | some x =>
    exfalso
    obtain ⟨h1, h2, h3⟩ := scan_is hs
    rw [h1, sign_itoa.2] at h
    have h4 := dd_len 18 x.natAbs (by omega)
    have h5 := List.length_pos_iff.2 (dd_ne x.natAbs)
    omega
theorem scan_bad_eval {l : List UInt8} (h : evalD 0 (signOff l) = none) : scan l = none := by
  cases hs : scan l with
  | none => rfl
  | some x =>
    exfalso
    obtain ⟨h1, h2, h3⟩ := scan_is hs
    rw [h1, sign_itoa.2, evalD_dd] at h
    cases h
/-- The value that is held against the text. -/
theorem whole_law {l : List UInt8} {n : Nat} {v : Int} (he : evalD 0 (signOff l) = some n) (h0 : -9223372036854775808 ≤ v) (h1 : v ≤ 9223372036854775807)
    (hp : isNeg l = false → n < 9223372036854775808 → v = n) (hm : isNeg l = true → n ≤ 9223372036854775808 → v = -(n : Int)) :
    decide (numT v = ⟨l.toArray⟩) = (scan l).isSome ∧ ∀ x, scan l = some x → v = x := by
  have key : ∀ x, scan l = some x → v = x := fun x hs => by
    obtain ⟨q1, q2, q3⟩ := scan_is hs
    rw [q1, sign_itoa.2, evalD_dd] at he
    obtain rfl : x.natAbs = n := by simpa using he
    rw [q1, sign_itoa.1] at hp hm
    by_cases hx : x < 0
    · have := hm (decide_eq_true hx) (by omega); omega
    · have := hp (decide_eq_false hx) (by omega); omega
  refine ⟨?_, key⟩
  cases hs : scan l with
  | none =>
    refine decide_eq_false fun e => ?_
    have : itoa v = l := by
      have := congrArg (fun b : ByteArray => b.data.toList) e
      simpa [numT] using this
    rw [← this, scan_itoa h0 h1] at hs
    cases hs
  | some x =>
    rw [Option.isSome_some]
    have := key x hs
    subst this
    obtain ⟨q1, -, -⟩ := scan_is hs
    refine decide_eq_true ?_
    unfold numT
    rw [← q1]
end Sc
end Go.Proofs.YtbpgpjibljgiiaaDoor
