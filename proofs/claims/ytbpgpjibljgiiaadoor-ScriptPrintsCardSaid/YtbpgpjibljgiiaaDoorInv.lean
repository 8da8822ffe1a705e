/-
  A region that draws its order, by what is true when some of its operations are done: one step for each operation, not one walk for each order. No statement about the program stands here.
-/
import Derived.Test.YtbpgpjibljgiiaaDoorKit
import Derived.Orders
namespace Go.Proofs.YtbpgpjibljgiiaaDoor
open Go.RowKit
set_option linter.unusedVariables false

section
variable {P : Program} {ops : Array Oper} {Q : Exit → Act → World → Prop} {md : Region.Mode}

/-- An operation without a guard. -/
theorem wpOp_plain {i : Nat} {o : Oper} {K : Act → World → Prop} {a : Act} {w : World} (hi : ops[i]? = some o) (hg : o.guard = none) (h : ∀ K' : Act → World → Prop, (∀ a w, K a w → K' a w) → o.wp P a w K' Q) : wpOp P ops Q i K a w := by
  unfold wpOp
  rw [hi]
  have hw : Region.wanted o (yielded ops a.tmps) = true := by simp [Region.wanted, hg]
  simp only [hw, if_true]
  exact .inl (h K (fun _ _ h => h))
/-- How many are still to be done. -/
def todo (L : Array Bool) : Nat := L.toList.count false
theorem todo_set {L : Array Bool} {i : Nat} (h : L.getD i true = false) : todo (L.setIfInBounds i true) + 1 = todo L := by
  have hi : i < L.size := by
    rcases Nat.lt_or_ge i L.size with c | c
    · exact c
    · simp [Array.getElem?_eq_none c] at h
  have hb : L[i] = false := by simpa [hi] using h
  unfold todo
  rw [Array.toList_setIfInBounds]
  have hl : L.toList[i]'(by simpa using hi) = false := by simpa using hb
  have hc := List.count_set (l := L.toList) (a := true) (b := false) (i := i) (by simpa using hi)
  have hp : 0 < L.toList.count false := List.count_pos_iff.2 (by rw [← hl]; exact List.getElem_mem _)
  rw [hc, hl, if_pos (by decide), if_neg (by decide)]
  omega
theorem wpAny_inv {I : Array Bool → Act → World → Prop}
    (hstep : ∀ L a w i, I L a w → L.size = ops.size → i ∈ Region.ready md ops L → wpOp P ops Q i (I (L.setIfInBounds i true)) a w)
    (hend : ∀ L a w, I L a w → L.size = ops.size → Region.ready md ops L = [] → Q .normal a w) :
    ∀ (fuel : Nat) (L : Array Bool) (a : Act) (w : World), I L a w → L.size = ops.size → todo L ≤ fuel → wpAny P md ops Q fuel L a w
  | 0, L, a, w, hI, hs, ht => by
    have hr : Region.ready md ops L = [] := by
      refine List.eq_nil_iff_forall_not_mem.2 fun i hi => ?_
      have := todo_set (mem_ready.1 hi).1
      omega
    exact ⟨hr, hend L a w hI hs hr⟩
  | fuel + 1, L, a, w, hI, hs, ht => by
    refine ⟨fun hr => hend L a w hI hs hr, fun i hi => ?_⟩
    have := todo_set (mem_ready.1 hi).1
    exact wpOp_mono (fun a' w' h => wpAny_inv hstep hend fuel _ a' w' h (by simpa using hs) (by omega)) (hstep L a w i hI hs hi)
/-- Each operation waits for elder ones alone. -/
def waitsUp (ops : Array Oper) : Bool := (List.range ops.size).all fun i => match ops[i]? with
  | some o => o.after.all fun e => decide (e.on < i)
  | none => true
theorem all_done {L : Array Bool} (hu : waitsUp ops = true) (hs : L.size = ops.size) (hr : Region.ready md ops L = []) : ∀ i, i < ops.size → L.getD i false = true := by
  intro i
  induction i using Nat.strongRecOn with
  | _ i ih =>
    intro hi
    have hi' : i < L.size := by omega
    cases hb : L[i] with
    | true => simp [hi', hb]
    | false =>
      exfalso
      have hm : i ∈ Region.ready md ops L := by
        refine mem_ready.2 ⟨by simp [hi', hb], ops[i], by simp [hi], fun e he _ => ?_⟩
        have h1 := List.all_eq_true.1 hu i (by simpa using hi)
        rw [show ops[i]? = some ops[i] by simp [hi]] at h1
        have h2 := Array.all_eq_true'.1 h1 e he
        have h3 : e.on < i := by simpa using h2
        exact ih e.on h3 (by omega)
      rw [hr] at hm
      cases hm
/-- **A region that draws its order, by an invariant**: p: which operations are done. -/
theorem region_inv {id : Nat} {l : List Oper} {a : Act} {w : World} (hm : P.follows .mixedOrders = true) (hu : waitsUp l.toArray = true) (I : (Nat → Prop) → Act → World → Prop) (h0 : I (fun _ => False) a w.drew)
    (hstep : ∀ (p : Nat → Prop) (a : Act) (w : World) (i : Nat), i < l.length → ¬ p i → (∀ o, l.toArray[i]? = some o → ∀ e, e ∈ o.after → Region.binds .any e = true → p e.on) → I p a w → wpOp P l.toArray Q i (I (fun k => p k ∨ k = i)) a w)
    (hend : ∀ (p : Nat → Prop) (a : Act) (w : World), (∀ i, i < l.length → p i) → I p a w → Q .normal a w) : (Code.region id l.toArray true).wp P Q a w := by
  refine wp_region_any hm (wpAny_inv (I := fun L a w => I (fun k => L.getD k false = true) a w) ?_ ?_ _ _ _ _ ?_ (by simp) ?_)
  · intro L a w i hI hs hi
    obtain ⟨h1, o, ho, hd⟩ := mem_ready.1 hi
    have hil : i < l.toArray.size := (Array.getElem?_eq_some_iff.1 ho).1
    have hiL : i < L.size := by omega
    have hnp : ¬ L.getD i false = true := by
      simp [hiL] at h1 ⊢
      exact h1
    have := hstep _ a w i (by simpa using hil) hnp (fun o' ho' e he hb => hd e (by rw [ho] at ho'; cases ho'; exact he) hb) hI
    refine wpOp_mono (fun a' w' h => ?_) this
    have e : (fun k => (L.setIfInBounds i true).getD k false = true) = (fun k => L.getD k false = true ∨ k = i) := by
      funext k
      refine propext ?_
      by_cases hk : k = i
      · subst hk; simp [hiL]
      · simp [Ne.symm hk, hk]
    show I (fun k => (L.setIfInBounds i true).getD k false = true) a' w'
    rw [e]
    exact h
  · intro L a w hI hs hr
    exact hend _ a w (fun i hi => all_done hu hs hr i (by simpa using hi)) hI
  · have e : (fun k => (Array.replicate l.toArray.size false).getD k false = true) = (fun _ => False) := by
      funext k
      refine propext ⟨fun h => ?_, fun h => h.elim⟩
      rcases Nat.lt_or_ge k l.toArray.size with c | c
      · have hk : (Array.replicate l.toArray.size false)[k]? = some false := by rw [Array.getElem?_replicate, if_pos c]
        rw [Array.getD_eq_getD_getElem?, hk] at h
        cases h
      · rw [Array.getD_eq_getD_getElem?, Array.getElem?_eq_none (by simpa using c)] at h
        cases h
    show I (fun k => (Array.replicate l.toArray.size false).getD k false = true) a w.drew
    rw [e]
    exact h0
  · unfold todo
    exact Nat.le_trans List.count_le_length (by simp)
end
end Go.Proofs.YtbpgpjibljgiiaaDoor
