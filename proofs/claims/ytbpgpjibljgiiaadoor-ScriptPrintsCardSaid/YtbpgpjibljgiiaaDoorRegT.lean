/-
  A region that draws its order: first operations that only add memory, in any order, then a tail in which each waits for all ahead of it. No statement about the program stands here.
-/
import Derived.Test.YtbpgpjibljgiiaaDoorReg
namespace Go.Proofs.YtbpgpjibljgiiaaDoor
open Go.RowKit
set_option linter.unusedVariables false
set_option linter.unusedSimpArgs false
set_option linter.unnecessarySimpa false

/-- ms: for each operation some that it waits for, at one or more removes. -/
def ancOk (l : List Oper) (ms : List (List Nat)) : Bool :=
  (List.range l.length).all fun i => (ms.getD i []).all fun j => match l[i]? with
    | some o => o.after.any fun e => Region.binds .any e && (e.on == j || (ms.getD e.on []).contains j)
    | none => false
/-- The tail. -/
def forced (l : List Oper) (ms : List (List Nat)) (n : Nat) : Bool := (List.range l.length).all fun i => decide (i < n) || (List.range i).all fun j => (ms.getD i []).contains j
theorem anc_done {l : List Oper} {ms : List (List Nat)} (hu : waitsFor l.toArray = true) (h : ancOk l ms = true) {p : Nat → Prop} (hc : ∀ i, p i → ∀ o, l.toArray[i]? = some o → ∀ e, e ∈ o.after → Region.binds .any e = true → p e.on) :
    ∀ i, i < l.length → (∀ o, l.toArray[i]? = some o → ∀ e, e ∈ o.after → Region.binds .any e = true → p e.on) → ∀ j, j ∈ ms.getD i [] → p j := by
  intro i
  induction i using Nat.strongRecOn with
  | _ i ih =>
    intro hi hd j hj
    have h1 := List.all_eq_true.1 (List.all_eq_true.1 h i (List.mem_range.2 hi)) j hj
    have ho : l[i]? = some l[i] := List.getElem?_eq_getElem hi
    rw [ho] at h1
    obtain ⟨e, he, h2⟩ := Array.any_eq_true'.1 h1
    rw [Bool.and_eq_true, Bool.or_eq_true] at h2
    have hp := hd l[i] (by simpa using ho) e he h2.1
    rcases h2.2 with h3 | h3
    · have : e.on = j := by simpa using h3
      rw [← this]; exact hp
    · have hw := List.all_eq_true.1 hu i (by simpa using hi)
      rw [show l.toArray[i]? = some l[i] by simpa using ho] at hw
      have h4 := Array.all_eq_true'.1 hw e he
      rw [h2.1] at h4
      have h5 : e.on < i := by simpa using h4
      exact ih e.on h5 (by omega) (hc e.on hp) j (by simpa using h3)
section
variable {P : Program} {Q : Exit → Act → World → Prop} {l : List Oper} {a0 : Act}
/-- **Any order first, then a forced tail.** -/
theorem region_tail {id : Nat} {w : World} (hm : P.follows .mixedOrders = true) (hu : waitsFor l.toArray = true) (ms : List (List Nat)) (hms : ancOk l ms = true) (n : Nat) (hn : n ≤ l.length) (hf : forced l ms n = true) (Φ : List Stab) (N : Nat) (hN : a0.tmps.size = N) (hs : slotsOk l N = true)
    (hstep : ∀ (p : Nat → Prop) (a : Act) (W : World) (i : Nat), i < n → ¬ p i → (∀ o, l.toArray[i]? = some o → ∀ e, e ∈ o.after → Region.binds .any e = true → p e.on) → Reg l a0 Φ w p a W →
      ∀ K : Act → World → Prop, Sets l Φ i a W K → wpOp P l.toArray Q i K a W)
    (hend : ∀ (p : Nat → Prop) (a : Act) (W : World), (∀ i, p i ↔ i < n) → Reg l a0 Φ w p a W → wpList P l.toArray Q (l.drop n) a W) : (Code.region id l.toArray true).wp P Q a0 w := by
  have hall : ∀ {p : Nat → Prop} {i : Nat}, n ≤ i → i < l.length → (∀ i, p i → ∀ o, l.toArray[i]? = some o → ∀ e, e ∈ o.after → Region.binds .any e = true → p e.on) → (∀ o, l.toArray[i]? = some o → ∀ e, e ∈ o.after → Region.binds .any e = true → p e.on) → ∀ j, j < i → p j := fun {p i} h1 h2 h3 h4 j hj => by
    have h5 := List.all_eq_true.1 hf i (List.mem_range.2 h2)
    have h6 : decide (i < n) = false := by simp; exact h1
    rw [h6, Bool.false_or] at h5
    exact anc_done hu hms h3 i h2 h4 j (by simpa using List.all_eq_true.1 h5 j (List.mem_range.2 hj))
  have hgo : ∀ {i : Nat} {a : Act} {W : World} (p : Nat → Prop), n ≤ i → i < l.length → (∀ j, p j ↔ j < i) → wpList P l.toArray Q (l.drop i) a W →
      wpOp P l.toArray Q i (fun a' W' => (Reg l a0 Φ w (fun k => p k ∨ k = i) a' W' ∧ ∀ j, (p j ∨ j = i) → j < n) ∨ (∃ m, n ≤ m ∧ (∀ j, (p j ∨ j = i) ↔ j < m) ∧ wpList P l.toArray Q (l.drop m) a' W')) a W := fun {i a W} p h1 h2 h3 h4 => by
    rw [List.drop_eq_getElem_cons h2] at h4
    have hp : ∀ j, (p j ∨ j = i) ↔ j < i + 1 := fun j => by rw [h3 j]; omega
    unfold wpOp
    rw [show l.toArray[i]? = some l[i] by simp [h2]]
    unfold wpList at h4
    dsimp only
    split
    · rename_i hw
      rw [if_pos hw] at h4
      rcases h4 with h4 | h4
      · exact .inl (Oper.wp_mono (fun a' W' h => .inr ⟨i + 1, by omega, hp, h⟩) h4)
      · exact .inr h4
    · rename_i hw
      rw [if_neg hw] at h4
      exact .inr ⟨i + 1, by omega, hp, h4⟩
  refine region_inv2 hm hu (fun p a W => (Reg l a0 Φ w p a W ∧ ∀ j, p j → j < n) ∨ (∃ m, n ≤ m ∧ (∀ j, p j ↔ j < m) ∧ wpList P l.toArray Q (l.drop m) a W)) ?_ ?_ ?_
  · exact .inl ⟨⟨rfl, rfl, fun _ _ => rfl, fun i d h => h.elim, (Fr.refl _ _).drew, fun _ h => h.elim, fun _ h => h.elim⟩, fun j h => h.elim⟩
  · intro p a W i hi hnp hd h
    rcases h with ⟨h, hpn⟩ | ⟨m, hnm, hpm, hw⟩
    · rcases Nat.lt_or_ge i n with hin | hin
      · exact hstep p a W i hin hnp hd h _ (fun v W' f hv => .inl ⟨h.step N hN hs hi hd f hv, fun j hj => by
          rcases hj with hj | hj
          · exact hpn j hj
          · omega⟩)
      · have hlt := hall hin hi h.closed hd
        have hin' : i = n := by
          rcases Nat.lt_or_ge n i with h5 | h5
          · have := hpn n (hlt n h5); omega
          · omega
        subst hin'
        exact hgo p (Nat.le_refl _) hi (fun j => ⟨fun hj => hpn j hj, fun hj => hlt j hj⟩) (hend p a W (fun j => ⟨fun hj => hpn j hj, fun hj => hlt j hj⟩) h)
    · have him : i = m := by
        have h1 : ¬ i < m := fun h => hnp ((hpm i).2 h)
        rcases Nat.lt_or_ge m i with h5 | h5
        · have h7 : p m := by
            have h5' := List.all_eq_true.1 hf i (List.mem_range.2 hi)
            have h6 : decide (i < n) = false := by simp; omega
            rw [h6, Bool.false_or] at h5'
            have h8 := List.all_eq_true.1 h5' m (List.mem_range.2 h5)
            refine anc_done hu hms (p := p) (fun k hk o ho e he hb => ?_) i hi hd m (by simpa using h8)
            rw [hpm] at hk ⊢
            have hkl : k < l.length := (Array.getElem?_eq_some_iff.1 ho).1
            have hw := List.all_eq_true.1 hu k (by simpa using hkl)
            rw [ho] at hw
            have h4 := Array.all_eq_true'.1 hw e he
            rw [hb] at h4
            have h5 : e.on < k := by simpa using h4
            omega
          have := (hpm m).1 h7
          omega
        · omega
      subst him
      exact hgo p hnm hi hpm hw
  · intro p a W hp h
    rcases h with ⟨h, hpn⟩ | ⟨m, hnm, hpm, hw⟩
    · have hnl : n = l.length := by
        rcases Nat.lt_or_ge n l.length with h5 | h5
        · have := hpn n (hp n h5); omega
        · omega
      have := hend p a W (fun j => ⟨fun hj => hpn j hj, fun hj => hp j (by omega)⟩) h
      rw [hnl, List.drop_length] at this
      exact this
    · have hml : l.length ≤ m := by
        rcases Nat.lt_or_ge m l.length with h5 | h5
        · have := (hpm m).1 (hp m h5); omega
        · exact h5
      rw [List.drop_of_length_le hml] at hw
      exact hw
end
section
variable {l : List Oper} {a0 a : Act} {Φ : List Stab} {w0 W : World} {p : Nat → Prop} {n : Nat}
/-- The frame behind the first operations. -/
theorem Reg.front (h : Reg l a0 Φ w0 p a W) (N : Nat) (hN : a0.tmps.size = N) (hs : slotsOk l N = true) (hn : n ≤ l.length) (hp : ∀ i, p i ↔ i < n) (ds : List (Nat × Tmp)) (hds : slots (l.take n) = ds) :
    ∃ vs : Nat → Value, (∀ i d, i < n → slotOf l i = some d → (Φ.getD i Stab.any).says (vs i) W) ∧ a = { tmps := lay ds vs a0.tmps, defers := a0.defers } := by
  have hsl : ∀ i, i < n → slotOf (l.take n) i = slotOf l i := fun i hi => by
    unfold slotOf
    rw [List.getElem?_take, if_pos hi]
  have hs' : slotsOk (l.take n) N = true := by
    have hl : (l.take n).length = n := by rw [List.length_take]; omega
    unfold slotsOk
    rw [Bool.and_eq_true]
    constructor
    · refine List.all_eq_true.2 fun i hi => List.all_eq_true.2 fun j hj => ?_
      have hi' := List.mem_range.1 hi
      have hj' := List.mem_range.1 hj
      rw [hl] at hi' hj'
      rw [hsl i hi', hsl j hj']
      have h3 := (Bool.and_eq_true _ _ ▸ hs : _ ∧ _).1
      exact List.all_eq_true.1 (List.all_eq_true.1 h3 i (List.mem_range.2 (by omega))) j (List.mem_range.2 (by omega))
    · refine List.all_eq_true.2 fun i hi => ?_
      have hi' := List.mem_range.1 hi
      rw [hl] at hi'
      rw [hsl i hi']
      have h3 := (Bool.and_eq_true _ _ ▸ hs : _ ∧ _).2
      exact List.all_eq_true.1 h3 i (List.mem_range.2 (by omega))
  have hl : (l.take n).length = n := by rw [List.length_take]; omega
  have h2 : Reg (l.take n) a0 Φ w0 p a W := by
    refine ⟨h.size, h.defers, fun t ht => h.same t fun i hi hpi hst => ht i (by rw [hl]; exact (hp i).1 hpi) hpi (by rw [hsl i ((hp i).1 hpi)]; exact hst), fun i d hpi hst => h.facts i d hpi (by rw [← hsl i ((hp i).1 hpi)]; exact hst), h.grown, fun i hpi => by rw [hl]; exact (hp i).1 hpi, fun i hpi o ho => h.closed i hpi o ?_⟩
    have hi := (hp i).1 hpi
    have : (l.take n)[i]? = some o := by simpa using ho
    rw [List.getElem?_take, if_pos hi] at this
    simpa using this
  obtain ⟨vs, h3, h4⟩ := h2.frame N hN hs' (fun i hi => (hp i).2 (by rw [hl] at hi; exact hi))
  refine ⟨vs, fun i d hi hd => h3 i d (by rw [hl]; exact hi) (by rw [hsl i hi]; exact hd), ?_⟩
  rw [h4, laid_lay hds]
end
end Go.Proofs.YtbpgpjibljgiiaaDoor
