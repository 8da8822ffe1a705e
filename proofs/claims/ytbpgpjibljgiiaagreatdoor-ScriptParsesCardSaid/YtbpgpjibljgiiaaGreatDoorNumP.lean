/-
  Script, plain: a number's text, and back.
-/
import Derived.Test.YtbpgpjibljgiiaaGreatDoorScnA
import Derived.Lib.ItoaNum
namespace Go.Proofs.YtbpgpjibljgiiaaGreatDoor
set_option linter.unusedVariables false
set_option linter.unusedSimpArgs false
namespace Sc
open Lib (decDigits itoa)
theorem dd_small {u : Nat} (h : u < 10) : decDigits u = [UInt8.ofNat (48 + u)] := by rw [decDigits, dif_pos h]
theorem dd_big {u : Nat} (h : ¬ u < 10) : decDigits u = decDigits (u / 10) ++ [UInt8.ofNat (48 + u % 10)] := by rw [decDigits, dif_neg h]
theorem dg_nat {d : Nat} (h : d < 10) : (UInt8.ofNat (48 + d)).toNat = 48 + d := by rw [UInt8.toNat_ofNat']; omega
theorem dd_digit : ∀ (u : Nat), ∀ c ∈ decDigits u, 48 ≤ c.toNat ∧ c.toNat ≤ 57 := by
  intro u
  induction u using Nat.strongRecOn with
  | _ u ih =>
    by_cases h : u < 10
    · rw [dd_small h]
      intro c hc
      rw [List.mem_singleton] at hc
      rw [hc, dg_nat h]; omega
    · rw [dd_big h]
      intro c hc
      rw [List.mem_append, List.mem_singleton] at hc
      rcases hc with hc | rfl
      · exact ih (u / 10) (by omega) c hc
      · rw [dg_nat (by omega)]; omega
theorem dd_head : ∀ (u : Nat), u ≠ 0 → ∃ c l, decDigits u = c :: l ∧ c ≠ 48 := by
  intro u
  induction u using Nat.strongRecOn with
  | _ u ih =>
    intro h0
    by_cases h : u < 10
    · refine ⟨_, [], dd_small h, fun e => ?_⟩
      have := congrArg UInt8.toNat e
      rw [dg_nat h] at this
      have h48 : (48 : UInt8).toNat = 48 := rfl
      omega
    · obtain ⟨c, l, h1, h2⟩ := ih (u / 10) (by omega) (by omega)
      exact ⟨c, l ++ [UInt8.ofNat (48 + u % 10)], by rw [dd_big h, h1]; rfl, h2⟩
theorem dd_ne (u : Nat) : decDigits u ≠ [] := by
  by_cases h : u < 10
  · rw [dd_small h]; simp
  · rw [dd_big h]; simp
theorem digs_app (c : UInt8) : ∀ (l : List UInt8) (a : Nat), digs a (l ++ [c]) = (digs a l).bind fun b => if c.toNat < 48 ∨ 57 < c.toNat ∨ 922337203685477580 < b then none else some (10 * b + (c.toNat - 48))
  | [], a => by simp [digs]
  | x :: l, a => by
    rw [List.cons_append, digs, digs]
    split
    · rfl
    · exact digs_app c l _
theorem digs_dd : ∀ (u : Nat), u < 9223372036854775809 → digs 0 (decDigits u) = some u := by
  intro u
  induction u using Nat.strongRecOn with
  | _ u ih =>
    intro hu
    by_cases h : u < 10
    · rw [dd_small h, digs, dg_nat h, if_neg (by omega), digs]
      simp
    · rw [dd_big h, digs_app, ih (u / 10) (by omega) (by omega), Option.bind_some, dg_nat (by omega), if_neg (by omega)]
      congr 1
      omega
theorem dg_back {c : UInt8} (h1 : 48 ≤ c.toNat) (h2 : c.toNat ≤ 57) : UInt8.ofNat (48 + (c.toNat - 48)) = c := by
  apply UInt8.toNat_inj.1
  rw [UInt8.toNat_ofNat']
  omega
theorem digs_inv : ∀ (l : List UInt8) (a b : Nat), 0 < a → digs a l = some b → decDigits b = decDigits a ++ l ∧ 0 < b
  | [], a, b, ha, h => by
    rw [digs] at h
    cases h
    exact ⟨by simp, ha⟩
  | c :: l, a, b, ha, h => by
    rw [digs] at h
    split at h
    · cases h
    · rename_i hc
      obtain ⟨h1, h2⟩ := digs_inv l (10 * a + (c.toNat - 48)) b (by omega) h
      refine ⟨?_, h2⟩
      rw [h1, dd_big (by omega), show (10 * a + (c.toNat - 48)) / 10 = a by omega, show (10 * a + (c.toNat - 48)) % 10 = c.toNat - 48 by omega, dg_back (by omega) (by omega)]
      simp
theorem scan_pos {l : List UInt8} (h : ∀ r, l ≠ 45 :: r) : scan l = num false l := by
  unfold scan
  split
  · rename_i r
    exact absurd rfl (h r)
  · rfl
theorem num_cons (b : Bool) {c : UInt8} (l : List UInt8) (h : c ≠ 48) : num b (c :: l) = sgn b (digs 0 (c :: l)) := by
  unfold num
  split
  · rename_i h2
    cases h2
  · rename_i h2
    cases h2
    exact absurd rfl h
  · rename_i h2
    cases h2
    rfl
theorem dd_not45 {u : Nat} {r : List UInt8} : decDigits u ≠ 45 :: r := fun e => by
  have := dd_digit u 45 (by rw [e]; simp)
  have h45 : (45 : UInt8).toNat = 45 := rfl
  omega
/-- A number's text reads as the number. -/
theorem scan_itoa {n : Int} (h0 : -9223372036854775808 ≤ n) (h1 : n ≤ 9223372036854775807) : scan (itoa n) = some n := by
  unfold itoa
  by_cases hn : n < 0
  · rw [if_pos hn]
    show num true (decDigits n.natAbs) = some n
    obtain ⟨c, l, h2, h3⟩ := dd_head n.natAbs (by omega)
    rw [h2, num_cons true l h3, ← h2, digs_dd _ (by omega)]
    show (if n.natAbs ≤ 9223372036854775808 then some (-(n.natAbs : Int)) else none) = _
    rw [if_pos (by omega)]
    congr 1
    omega
  · rw [if_neg hn, scan_pos (fun r => dd_not45)]
    by_cases hz : n.toNat = 0
    · rw [hz]
      have : n = 0 := by omega
      rw [this, dd_small (by decide)]
      rfl
    · obtain ⟨c, l, h2, h3⟩ := dd_head n.toNat hz
      rw [h2, num_cons false l h3, ← h2, digs_dd _ (by omega)]
      show (if n.toNat < 9223372036854775808 then some (n.toNat : Int) else none) = _
      rw [if_pos (by omega)]
      congr 1
      omega
theorem num_is {b : Bool} {l : List UInt8} {n : Int} (h : num b l = some n) : ∃ u : Nat, l = decDigits u ∧ (b = true → 0 < u ∧ u ≤ 9223372036854775808 ∧ n = -(u : Int)) ∧ (b = false → u < 9223372036854775808 ∧ n = (u : Int)) := by
  unfold num at h
  split at h
  · cases h
  · split at h
    · cases h
    · rename_i hb
      split at h
      · cases h
        exact ⟨0, by rw [dd_small (by decide)]; rfl, fun q => absurd q hb, fun _ => ⟨by decide, rfl⟩⟩
      · cases h
  · rename_i c l hc
    cases hd : digs 0 (c :: l) with
    | none => rw [hd] at h; cases h
    | some u =>
      rw [hd] at h
      rw [digs] at hd
      split at hd
      · cases hd
      · rename_i h9
        have hc48 : c.toNat ≠ 48 := fun e => hc (UInt8.toNat_inj.1 e)
        obtain ⟨h2, h3⟩ := digs_inv l (10 * 0 + (c.toNat - 48)) u (by omega) hd
        have h4 : c :: l = decDigits u := by
          rw [h2, dd_small (by omega), show 48 + (10 * 0 + (c.toNat - 48)) = 48 + (c.toNat - 48) by omega, dg_back (by omega) (by omega)]
          rfl
        refine ⟨u, h4, fun q => ?_, fun q => ?_⟩
        · subst q
          have h5 : (if u ≤ 9223372036854775808 then some (-(u : Int)) else none) = some n := h
          split at h5
          · cases h5; exact ⟨h3, by assumption, rfl⟩
          · cases h5
        · subst q
          have h5 : (if u < 9223372036854775808 then some (u : Int) else none) = some n := h
          split at h5
          · cases h5; exact ⟨by assumption, rfl⟩
          · cases h5
/-- What reads as a number is its text. -/
theorem scan_is {l : List UInt8} {n : Int} (h : scan l = some n) : l = itoa n ∧ -9223372036854775808 ≤ n ∧ n ≤ 9223372036854775807 := by
  unfold scan at h
  split at h
  · rename_i r
    obtain ⟨u, h1, h2, -⟩ := num_is h
    obtain ⟨h3, h4, rfl⟩ := h2 rfl
    refine ⟨?_, by omega, by omega⟩
    unfold itoa
    rw [if_pos (by omega), h1, show (-(u : Int)).natAbs = u by omega]
  · obtain ⟨u, h1, -, h2⟩ := num_is h
    obtain ⟨h3, rfl⟩ := h2 rfl
    refine ⟨?_, by omega, by omega⟩
    unfold itoa
    rw [if_neg (by omega), h1, show ((u : Int)).toNat = u by omega]
end Sc
end Go.Proofs.YtbpgpjibljgiiaaGreatDoor
