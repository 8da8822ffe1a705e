/-
  Script, plain: how the document reads a step's line is how the program reads it.
-/
import Derived.Test.YtbpgpjibljgiiaaDoorRefB
namespace Go.Proofs.YtbpgpjibljgiiaaDoor
set_option linter.unusedVariables false
set_option linter.unusedSimpArgs false
namespace Sc
def loseB : ByteArray := ⟨#[108, 111, 115, 101]⟩
def twiceB : ByteArray := ⟨#[116, 119, 105, 99, 101]⟩
theorem kindN_is {x : ByteArray} {k : Nat} (h : kindN x = k) (h0 : k ≠ 0) : (wordsL k).head? = some x := by
  unfold kindN at h
  have key : ∀ n j, kindFrom x n j = k → (wordsL k).head? = some x := by
    intro n
    induction n with
    | zero => intro j hj; exact absurd hj.symm h0
    | succ n ih =>
      intro j hj
      rw [kindFrom] at hj
      split at hj
      · subst hj; assumption
      · exact ih _ hj
  exact key _ _ h
/-- The step that the document reads, where the kind is j and its fields begin at k. -/
def stOf (j : Nat) (F : List ByteArray) (k : Nat) : St :=
  if (wrdB j).2 = ⟨#[66]⟩ then ⟨j, 0, 0, 0, (bytL (fld F k)).getD []⟩ else if (wrdB j).2 = ⟨#[78]⟩ then ⟨j, (scan (fld F k).data.toList).getD 0, 0, 0, []⟩
  else if (wrdB j).2 = ⟨#[78, 78]⟩ then ⟨j, 0, (scan (fld F k).data.toList).getD 0, (scan (fld F (k + 1)).data.toList).getD 0, []⟩ else ⟨j, 0, 0, 0, []⟩
theorem wrong_B (F : List ByteArray) (k : Nat) : wrongG F k [66] = thenF (bytF F k) (overF F (nextK F k)) := by
  unfold bytF nextK
  rw [wrongG]
  by_cases h : k < F.length
  · rw [if_pos h, if_pos h, if_pos h, show rightB (fld F k) 66 = (bytL (fld F k)).isSome from rfl]
    cases bytL (fld F k) <;> rfl
  · rw [if_neg h, if_neg h]; rfl
theorem wrong_N (F : List ByteArray) (k : Nat) : wrongG F k [78] = thenF (numF F k) (overF F (nextK F k)) := by
  unfold numF nextK
  rw [wrongG]
  by_cases h : k < F.length
  · rw [if_pos h, if_pos h, if_pos h, show rightB (fld F k) 78 = (scan (fld F k).data.toList).isSome from rfl]
    cases scan (fld F k).data.toList <;> rfl
  · rw [if_neg h, if_neg h]; rfl
theorem wrong_NN (F : List ByteArray) (k : Nat) : wrongG F k [78, 78] = thenF (twoF F k) (overF F (twoK F k)) := by
  unfold twoF twoK
  rw [wrongG]
  by_cases h : k < F.length
  · rw [if_pos h, show rightB (fld F k) 78 = (scan (fld F k).data.toList).isSome from rfl]
    cases hs : scan (fld F k).data.toList with
    | none =>
      have hn : numF F k = some (k, 281) := by unfold numF; rw [if_pos h, hs]; rfl
      rw [hn]; rfl
    | some v =>
      have hn : numF F k = none := by unfold numF; rw [if_pos h, hs]; rfl
      have hk : nextK F k = k + 1 := by unfold nextK; rw [if_pos h]
      rw [hn, hk]
      show wrongG F (k + 1) [78] = _
      rw [wrong_N]; rfl
  · have hn : numF F k = some (k, 282) := by unfold numF; rw [if_neg h]
    rw [if_neg h, hn]; rfl
theorem thenF_none {f g : Flt} (h : thenF f g = none) : f = none ∧ g = none := by
  cases f with
  | none => exact ⟨rfl, h⟩
  | some q => cases h
theorem numN_of {F : List ByteArray} {k : Nat} (h : numF F k = none) : numN F k = (scan (fld F k).data.toList).getD 0 ∧ nextK F k = k + 1 := by
  have h2 := numF_none h
  exact ⟨if_pos h2, if_pos h2⟩
theorem two_of {F : List ByteArray} {k : Nat} (h : twoF F k = none) : twoS F k = (scan (fld F k).data.toList).getD 0 ∧ twoP F k = (scan (fld F (k + 1)).data.toList).getD 0 := by
  unfold twoF at h
  unfold twoS twoP
  split at h
  · rename_i h1
    rw [h] at h1
    cases h1
  · rename_i h1
    rw [if_neg h1, if_neg h1]
    have h0 : numF F k = none := by
      cases hn : numF F k with
      | none => rfl
      | some q => rw [hn] at h1; exact absurd rfl h1
    obtain ⟨h2, h3⟩ := numN_of h0
    rw [h3] at h ⊢
    exact ⟨h2, (numN_of h).1⟩
theorem kind_eq {x : ByteArray} {j : Nat} (hj : 1 ≤ j ∧ j ≤ 6) (h : x = (wrdB j).1) : kindN x = j := by
  have hc : j = 1 ∨ j = 2 ∨ j = 3 ∨ j = 4 ∨ j = 5 ∨ j = 6 := by omega
  subst h
  rcases hc with rfl | rfl | rfl | rfl | rfl | rfl <;> decide +kernel
theorem wrd_blank {j : Nat} (hj : 7 ≤ j ∧ j ≤ 10) : (32 : UInt8) ∈ (wrdB j).1.data.toList := by
  have hc : j = 7 ∨ j = 8 ∨ j = 9 ∨ j = 10 := by omega
  rcases hc with rfl | rfl | rfl | rfl <;> decide +kernel
/-- The line begins with a word of its own. -/
theorem ref_one {F : List ByteArray} {j : Nat} (hb : (32 : UInt8) ∉ (fld F 0).data.toList) (hj : 1 ≤ j ∧ j ≤ 10) (h : (wrdB j).1 = fld F 0) :
    stepF F = wrongG F 1 (wrdB j).2.data.toList ∧ (stepF F = none → stepS F = stOf j F 1) := by
  have h6 : j ≤ 6 := by
    rcases Nat.lt_or_ge 6 j with q | q
    · exact absurd (wrd_blank ⟨q, hj.2⟩) (by rw [h]; exact hb)
    · exact q
  have hk := kind_eq ⟨hj.1, h6⟩ h.symm
  have hc : j = 1 ∨ j = 2 ∨ j = 3 ∨ j = 4 ∨ j = 5 ∨ j = 6 := by omega
  rcases hc with rfl | rfl | rfl | rfl | rfl | rfl
  · rw [stepF, stepS, hk]
    refine ⟨(wrong_B F 1).symm, fun hn => ?_⟩
    have h1 := (thenF_none hn).1
    show (⟨1, 0, 0, 0, bytN F 1⟩ : St) = ⟨1, 0, 0, 0, (bytL (fld F 1)).getD []⟩
    unfold bytF at h1
    unfold bytN
    split at h1
    · rename_i hl; rw [if_pos hl]
    · cases h1
  · rw [stepF, stepS, hk]
    refine ⟨(wrong_N F 1).symm, fun hn => ?_⟩
    show (⟨2, numN F 1, 0, 0, []⟩ : St) = ⟨2, (scan (fld F 1).data.toList).getD 0, 0, 0, []⟩
    rw [(numN_of (thenF_none hn).1).1]
  · rw [stepF, stepS, hk]; exact ⟨rfl, fun _ => rfl⟩
  · rw [stepF, stepS, hk]; exact ⟨rfl, fun _ => rfl⟩
  · rw [stepF, stepS, hk]
    refine ⟨(wrong_NN F 1).symm, fun hn => ?_⟩
    show (⟨5, 0, twoS F 1, twoP F 1, []⟩ : St) = ⟨5, 0, (scan (fld F 1).data.toList).getD 0, (scan (fld F 2).data.toList).getD 0, []⟩
    rw [(two_of (thenF_none hn).1).1, (two_of (thenF_none hn).1).2]
  · rw [stepF, stepS, hk]
    refine ⟨(wrong_NN F 1).symm, fun hn => ?_⟩
    show (⟨6, 0, twoS F 1, twoP F 1, []⟩ : St) = ⟨6, 0, (scan (fld F 1).data.toList).getD 0, (scan (fld F 2).data.toList).getD 0, []⟩
    rw [(two_of (thenF_none hn).1).1, (two_of (thenF_none hn).1).2]
theorem kind_lose : kindN loseB = 7 := by decide +kernel
theorem kind_twice : kindN twiceB = 9 := by decide +kernel
theorem way_fault {F : List ByteArray} (h : fld F 0 = loseB ∨ fld F 0 = twiceB) : stepF F = thenF (wayF F 1) (overF F (wayK F 1)) ∧ ∃ kd, (kd = 7 ∨ kd = 9) ∧ kindN (fld F 0) = kd ∧ stepS F = ⟨wayD kd F 1, 0, wayS F 1, wayP F 1, []⟩ := by
  rcases h with h | h
  · have hk : kindN (fld F 0) = 7 := by rw [h]; exact kind_lose
    rw [stepF, stepS, hk]
    exact ⟨rfl, 7, .inl rfl, rfl, rfl⟩
  · have hk : kindN (fld F 0) = 9 := by rw [h]; exact kind_twice
    rw [stepF, stepS, hk]
    exact ⟨rfl, 9, .inr rfl, rfl, rfl⟩
theorem ref_short {F : List ByteArray} (h : fld F 0 = loseB ∨ fld F 0 = twiceB) (hl : ¬ 1 < F.length) : stepF F = some (1, 282) := by
  rw [(way_fault h).1]
  have : wayF F 1 = some (1, 282) := by
    unfold wayF
    rw [if_neg (fun q => hl q.1), if_neg hl]
  rw [this]; rfl
theorem ref_way {F : List ByteArray} (h : fld F 0 = loseB ∨ fld F 0 = twiceB) (hl : 1 < F.length) (hw : ¬ (fld F 1 = downB ∨ fld F 1 = upB)) : stepF F = some (1, 281) := by
  rw [(way_fault h).1]
  have : wayF F 1 = some (1, 281) := by
    unfold wayF
    rw [if_neg (fun q => hw q.2.symm), if_pos hl]
  rw [this]; rfl
/-- The line begins with two words. -/
theorem ref_two {F : List ByteArray} {j : Nat} (h : fld F 0 = loseB ∨ fld F 0 = twiceB) (hl : 1 < F.length) (hw : fld F 1 = downB ∨ fld F 1 = upB) (hj : 1 ≤ j ∧ j ≤ 10) (hq : (wrdB j).1 = fld F 0 ++ ⟨#[32]⟩ ++ fld F 1) :
    stepF F = wrongG F 2 (wrdB j).2.data.toList ∧ (stepF F = none → stepS F = stOf j F 2) := by
  obtain ⟨h1, kd, hkd, hk, h2⟩ := way_fault h
  have hok : wayOk F 1 := ⟨hl, hw.symm⟩
  have e1 : wayF F 1 = twoF F 2 := if_pos hok
  have e2 : wayK F 1 = twoK F 2 := if_pos hok
  have e3 : wayS F 1 = twoS F 2 := if_pos hok
  have e4 : wayP F 1 = twoP F 2 := if_pos hok
  rw [e1, e2] at h1
  rw [e3, e4] at h2
  have hL : (wrdB j).2 = ⟨#[78, 78]⟩ ∧ wayD kd F 1 = j := by
    have hc : j = 1 ∨ j = 2 ∨ j = 3 ∨ j = 4 ∨ j = 5 ∨ j = 6 ∨ j = 7 ∨ j = 8 ∨ j = 9 ∨ j = 10 := by omega
    have hup : ∀ n, fld F 1 = upB → wayD n F 1 = n + 1 := fun n q => if_pos ⟨hl, q⟩
    have hdn : ∀ n, fld F 1 = downB → wayD n F 1 = n := fun n q => if_neg (fun z => by rw [q] at z; exact absurd z.2 (by decide))
    rcases h with h | h <;> rcases hw with hw | hw <;> rw [h, hw] at hq
    · have hkd7 : kd = 7 := by rw [← hk, h]; exact kind_lose
      rw [hdn _ hw, hkd7]
      rcases hc with rfl | rfl | rfl | rfl | rfl | rfl | rfl | rfl | rfl | rfl <;> first | exact ⟨rfl, rfl⟩ | exact absurd hq (by decide +kernel)
    · have hkd7 : kd = 7 := by rw [← hk, h]; exact kind_lose
      rw [hup _ hw, hkd7]
      rcases hc with rfl | rfl | rfl | rfl | rfl | rfl | rfl | rfl | rfl | rfl <;> first | exact ⟨rfl, rfl⟩ | exact absurd hq (by decide +kernel)
    · have hkd7 : kd = 9 := by rw [← hk, h]; exact kind_twice
      rw [hdn _ hw, hkd7]
      rcases hc with rfl | rfl | rfl | rfl | rfl | rfl | rfl | rfl | rfl | rfl <;> first | exact ⟨rfl, rfl⟩ | exact absurd hq (by decide +kernel)
    · have hkd7 : kd = 9 := by rw [← hk, h]; exact kind_twice
      rw [hup _ hw, hkd7]
      rcases hc with rfl | rfl | rfl | rfl | rfl | rfl | rfl | rfl | rfl | rfl <;> first | exact ⟨rfl, rfl⟩ | exact absurd hq (by decide +kernel)
  rw [hL.1]
  refine ⟨h1.trans (wrong_NN F 2).symm, fun hn => ?_⟩
  rw [h1] at hn
  obtain ⟨q1, q2⟩ := two_of (thenF_none hn).1
  rw [h2, hL.2, q1, q2]
  unfold stOf
  rw [hL.1]
  rfl
/-- No kind begins so. -/
theorem ref_none {F : List ByteArray} (h1 : fld F 0 ≠ loseB) (h2 : fld F 0 ≠ twiceB) (h : ∀ j, 1 ≤ j → j < 11 → (wrdB j).1 ≠ fld F 0) : stepF F = some (0, 280) := by
  rcases kindN_cases (fld F 0) with hk | hk | hk | hk | hk | hk | hk | hk | hk
  · rw [stepF, hk]; rfl
  · exact absurd (Option.some.inj (kindN_is hk (by decide))) (h 1 (by decide) (by decide))
  · exact absurd (Option.some.inj (kindN_is hk (by decide))) (h 2 (by decide) (by decide))
  · exact absurd (Option.some.inj (kindN_is hk (by decide))) (h 3 (by decide) (by decide))
  · exact absurd (Option.some.inj (kindN_is hk (by decide))) (h 4 (by decide) (by decide))
  · exact absurd (Option.some.inj (kindN_is hk (by decide))) (h 5 (by decide) (by decide))
  · exact absurd (Option.some.inj (kindN_is hk (by decide))) (h 6 (by decide) (by decide))
  · exact absurd (Option.some.inj (kindN_is hk (by decide))).symm h1
  · exact absurd (Option.some.inj (kindN_is hk (by decide))).symm h2
theorem over_code {F : List ByteArray} {k : Nat} {q : Nat × Int} (h : overF F k = some q) : q.2 = 281 ∨ q.2 = 282 := by
  unfold overF at h
  split at h
  · cases h; exact .inr rfl
  · cases h
theorem wrong_code : ∀ {L : List UInt8} {F : List ByteArray} {k : Nat} {q : Nat × Int}, wrongG F k L = some q → q.2 = 281 ∨ q.2 = 282
  | [], F, k, q, h => over_code h
  | c :: r, F, k, q, h => by
    rw [wrongG] at h
    split at h
    · split at h
      · exact wrong_code h
      · cases h; exact .inl rfl
    · cases h; exact .inr rfl
theorem wrong_head {c : UInt8} {r : List UInt8} {F : List ByteArray} {k : Nat} (h : wrongG F k (c :: r) = none) : k < F.length ∧ rightB (fld F k) c = true ∧ wrongG F (k + 1) r = none := by
  rw [wrongG] at h
  split at h
  · rename_i h1
    split at h
    · rename_i h2
      exact ⟨h1, h2, h⟩
    · cases h
  · cases h
theorem ref_two_has {F : List ByteArray} (h : fld F 0 = loseB ∨ fld F 0 = twiceB) (hw : fld F 1 = downB ∨ fld F 1 = upB) : ∃ j, 1 ≤ j ∧ j < 11 ∧ (wrdB j).1 = fld F 0 ++ ⟨#[32]⟩ ++ fld F 1 := by
  rcases h with h | h <;> rcases hw with hw | hw <;> rw [h, hw]
  · exact ⟨7, by decide, by decide, by decide +kernel⟩
  · exact ⟨8, by decide, by decide, by decide +kernel⟩
  · exact ⟨9, by decide, by decide, by decide +kernel⟩
  · exact ⟨10, by decide, by decide, by decide +kernel⟩
end Sc
end Go.Proofs.YtbpgpjibljgiiaaDoor
