/-
  A region that draws its order, by facts about its slots: the frame stays abstract, each operation is looked at once, by the facts of those it waits for. No statement about the program stands here.
-/
import Derived.Test.YtbpgpjibljgiiaaDoorInv
import Derived.Test.YtbpgpjibljgiiaaDoorInvIn
namespace Go.Proofs.YtbpgpjibljgiiaaDoor
open Go.RowKit
set_option linter.unusedVariables false
set_option linter.unusedSimpArgs false

section
variable {P : Program} {ops : Array Oper} {Q : Exit → Act → World → Prop}
/-- Each operation waits for elder ones alone (of what binds). -/
def waitsFor (ops : Array Oper) : Bool := (List.range ops.size).all fun i => match ops[i]? with
  | some o => o.after.all fun e => !Region.binds .any e || decide (e.on < i)
  | none => true
theorem all_done2 {L : Array Bool} (hu : waitsFor ops = true) (hs : L.size = ops.size) (hr : Region.ready .any ops L = []) : ∀ i, i < ops.size → L.getD i false = true := by
  intro i
  induction i using Nat.strongRecOn with
  | _ i ih =>
    intro hi
    have hi' : i < L.size := by omega
    cases hb : L[i] with
    | true => simp [hi', hb]
    | false =>
      exfalso
      have hm : i ∈ Region.ready .any ops L := by
        refine mem_ready.2 ⟨by simp [hi', hb], ops[i], by simp [hi], fun e he hb2 => ?_⟩
        have h1 := List.all_eq_true.1 hu i (by simpa using hi)
        rw [show ops[i]? = some ops[i] by simp [hi]] at h1
        have h2 := Array.all_eq_true'.1 h1 e he
        have h3 : e.on < i := by
          rw [hb2] at h2
          simpa using h2
        exact ih e.on h3 (by omega)
      rw [hr] at hm
      cases hm
/-- **A region that draws its order, by an invariant**: p: which operations are done. -/
theorem region_inv2 {id : Nat} {l : List Oper} {a : Act} {w : World} (hm : P.follows .mixedOrders = true) (hu : waitsFor l.toArray = true) (I : (Nat → Prop) → Act → World → Prop) (h0 : I (fun _ => False) a w.drew)
    (hstep : ∀ (p : Nat → Prop) (a : Act) (w : World) (i : Nat), i < l.length → ¬ p i → (∀ o, l.toArray[i]? = some o → ∀ e, e ∈ o.after → Region.binds .any e = true → p e.on) → I p a w → wpOp P l.toArray Q i (I (fun k => p k ∨ k = i)) a w)
    (hend : ∀ (p : Nat → Prop) (a : Act) (w : World), (∀ i, i < l.length → p i) → I p a w → Q .normal a w) : (Code.region id l.toArray true).wp P Q a w := by
  refine wp_region_any hm (wpAny_inv (I := fun L a w => I (fun k => L.getD k false = true) a w) ?_ ?_ _ _ _ _ ?_ (by simp) ?_)
  · intro L a w i hI hs hi
    obtain ⟨h1, o, ho, hd⟩ := mem_ready.1 hi
    have hil : i < l.toArray.size := (Array.getElem?_eq_some_iff.1 ho).1
    have hiL : i < L.size := by omega
    have hnp : ¬ L.getD i false = true := by
      simp [hiL] at h1 ⊢
      exact h1
    have := hstep _ a w i (by simpa using hil) hnp (fun o' ho' e he hb => hd e (by rw [ho] at ho'; cases ho'; exact he) hb) hI
    refine wpOp_mono (fun a' w' h => ?_) this
    have e : (fun k => (L.setIfInBounds i true).getD k false = true) = (fun k => L.getD k false = true ∨ k = i) := by
      funext k
      refine propext ?_
      by_cases hk : k = i
      · subst hk; simp [hiL]
      · simp [Ne.symm hk, hk]
    show I (fun k => (L.setIfInBounds i true).getD k false = true) a' w'
    rw [e]
    exact h
  · intro L a w hI hs hr
    exact hend _ a w (fun i hi => all_done2 hu hs hr i (by simpa using hi)) hI
  · have e : (fun k => (Array.replicate l.toArray.size false).getD k false = true) = (fun _ => False) := by
      funext k
      refine propext ⟨fun h => ?_, fun h => h.elim⟩
      rcases Nat.lt_or_ge k l.toArray.size with c | c
      · have hk : (Array.replicate l.toArray.size false)[k]? = some false := by rw [Array.getElem?_replicate, if_pos c]
        rw [Array.getD_eq_getD_getElem?, hk] at h
        cases h
      · rw [Array.getD_eq_getD_getElem?, Array.getElem?_eq_none (by simpa using c)] at h
        cases h
    show I (fun k => (Array.replicate l.toArray.size false).getD k false = true) a w.drew
    rw [e]
    exact h0
  · unfold todo
    exact Nat.le_trans List.count_le_length (by simp)
end
section
variable {F : Fence} {n : Nat} {P : Program} {ops : Array Oper} {Q : Exit → Act → World → Prop}
/-- **A region that draws its order, by an invariant**: p: which operations are done. -/
theorem region_inv_in2 {id : Nat} {l : List Oper} {a : Act} {w : World} (hm : P.follows .mixedOrders = true) (hu : waitsFor l.toArray = true) (I : (Nat → Prop) → Act → World → Prop) (h0 : I (fun _ => False) a w.drew)
    (hstep : ∀ (p : Nat → Prop) (a : Act) (w : World) (i : Nat), i < l.length → ¬ p i → (∀ o, l.toArray[i]? = some o → ∀ e, e ∈ o.after → Region.binds .any e = true → p e.on) → I p a w → wpOpIn F n P l.toArray Q i (I (fun k => p k ∨ k = i)) a w)
    (hend : ∀ (p : Nat → Prop) (a : Act) (w : World), (∀ i, i < l.length → p i) → I p a w → Q .normal a w) : (Code.region id l.toArray true).wpIn F n P Q a w := by
  refine wpIn_region_any hm (wpAnyIn_inv (I := fun L a w => I (fun k => L.getD k false = true) a w) ?_ ?_ _ _ _ _ ?_ (by simp) ?_)
  · intro L a w i hI hs hi
    obtain ⟨h1, o, ho, hd⟩ := mem_ready.1 hi
    have hil : i < l.toArray.size := (Array.getElem?_eq_some_iff.1 ho).1
    have hiL : i < L.size := by omega
    have hnp : ¬ L.getD i false = true := by
      simp [hiL] at h1 ⊢
      exact h1
    have := hstep _ a w i (by simpa using hil) hnp (fun o' ho' e he hb => hd e (by rw [ho] at ho'; cases ho'; exact he) hb) hI
    refine wpOpIn_mono (fun a' w' h => ?_) this
    have e : (fun k => (L.setIfInBounds i true).getD k false = true) = (fun k => L.getD k false = true ∨ k = i) := by
      funext k
      refine propext ?_
      by_cases hk : k = i
      · subst hk; simp [hiL]
      · simp [Ne.symm hk, hk]
    show I (fun k => (L.setIfInBounds i true).getD k false = true) a' w'
    rw [e]
    exact h
  · intro L a w hI hs hr
    exact hend _ a w (fun i hi => all_done2 hu hs hr i (by simpa using hi)) hI
  · have e : (fun k => (Array.replicate l.toArray.size false).getD k false = true) = (fun _ => False) := by
      funext k
      refine propext ⟨fun h => ?_, fun h => h.elim⟩
      rcases Nat.lt_or_ge k l.toArray.size with c | c
      · have hk : (Array.replicate l.toArray.size false)[k]? = some false := by rw [Array.getElem?_replicate, if_pos c]
        rw [Array.getD_eq_getD_getElem?, hk] at h
        cases h
      · rw [Array.getD_eq_getD_getElem?, Array.getElem?_eq_none (by simpa using c)] at h
        cases h
    show I (fun k => (Array.replicate l.toArray.size false).getD k false = true) a w.drew
    rw [e]
    exact h0
  · unfold todo
    exact Nat.le_trans List.count_le_length (by simp)
end

/-- The slot that an operation writes. -/
def slotOf (l : List Oper) (i : Nat) : Option Tmp := (l[i]?).bind (·.dst)
/-- Each slot is written once, and lies in the frame. -/
def slotsOk (l : List Oper) (N : Nat) : Bool :=
  ((List.range l.length).all fun i => (List.range l.length).all fun j => i == j || slotOf l i == none || slotOf l i != slotOf l j) &&
  ((List.range l.length).all fun i => ((slotOf l i).map fun d => decide (d < N)).getD true)
theorem slots_ne {l : List Oper} {N : Nat} (h : slotsOk l N = true) {i j d : Nat} (hi : i < l.length) (hj : j < l.length) (h1 : slotOf l i = some d) (h2 : slotOf l j = some d) : i = j := by
  have h3 := (Bool.and_eq_true _ _ ▸ h : _ ∧ _).1
  have h4 := List.all_eq_true.1 (List.all_eq_true.1 h3 i (List.mem_range.2 hi)) j (List.mem_range.2 hj)
  rw [h1, h2] at h4
  simpa using h4
theorem slots_lt {l : List Oper} {N : Nat} (h : slotsOk l N = true) {i d : Nat} (hi : i < l.length) (h1 : slotOf l i = some d) : d < N := by
  have h3 := (Bool.and_eq_true _ _ ▸ h : _ ∧ _).2
  have h4 := List.all_eq_true.1 h3 i (List.mem_range.2 hi)
  rw [h1] at h4
  simpa using h4

/-- What a fact about a slot says goes on where nothing turns. -/
structure Stab where
  says : Value → World → Prop
  stays : ∀ u W W', Fr [] W W' → says u W → says u W'
def Stab.is (v : Value) : Stab := ⟨fun u _ => u = v, fun _ _ _ _ h => h⟩
def Stab.any : Stab := ⟨fun _ _ => True, fun _ _ _ _ h => h⟩

/-- What is sure in the midst of a region: p: which operations are done; Φ: the facts of their slots. -/
structure Reg (l : List Oper) (a0 : Act) (Φ : List Stab) (w0 : World) (p : Nat → Prop) (a : Act) (W : World) : Prop where
  size : a.tmps.size = a0.tmps.size
  defers : a.defers = a0.defers
  same : ∀ t, (∀ i, i < l.length → p i → slotOf l i ≠ some t) → a.tmps[t]? = a0.tmps[t]?
  facts : ∀ i d, p i → slotOf l i = some d → ∃ v, a.tmps[d]? = some v ∧ (Φ.getD i Stab.any).says v W
  grown : Fr [] w0 W
  inside : ∀ i, p i → i < l.length
  closed : ∀ i, p i → ∀ o, l.toArray[i]? = some o → ∀ e, e ∈ o.after → Region.binds .any e = true → p e.on

section
variable {l : List Oper} {a0 a : Act} {Φ : List Stab} {w0 W W' : World} {p : Nat → Prop}
/-- A slot's fact. -/
theorem Reg.get (h : Reg l a0 Φ w0 p a W) (i d : Nat) (hp : p i) (hd : slotOf l i = some d) : ∃ v, a.tmps[d]? = some v ∧ (Φ.getD i Stab.any).says v W := h.facts i d hp hd
theorem Reg.val (h : Reg l a0 Φ w0 p a W) {v : Value} (i d : Nat) (hp : p i) (hd : slotOf l i = some d) (hv : Φ.getD i Stab.any = Stab.is v) : a.tmps[d]? = some v := by
  obtain ⟨u, h1, h2⟩ := h.facts i d hp hd
  rw [hv] at h2
  rw [h1, show u = v from h2]
/-- A slot that no operation writes. -/
theorem Reg.old (h : Reg l a0 Φ w0 p a W) (t : Nat) (hn : ((List.range l.length).all fun i => slotOf l i != some t) = true) : a.tmps[t]? = a0.tmps[t]? :=
  h.same t fun i hi _ hs => by
    have := List.all_eq_true.1 hn i (List.mem_range.2 hi)
    rw [hs] at this
    simp at this
/-- A slot that an operation writes that is not done. -/
theorem Reg.yet (h : Reg l a0 Φ w0 p a W) (N : Nat) (hs : slotsOk l N = true) (t j : Nat) (hj : j < l.length) (hjt : slotOf l j = some t) (hnp : ¬ p j) : a.tmps[t]? = a0.tmps[t]? :=
  h.same t fun i hi hp h1 => by
    have := slots_ne hs hi hj h1 hjt
    subst this
    exact hnp hp
theorem Reg.step (h : Reg l a0 Φ w0 p a W) (N : Nat) (hN : a0.tmps.size = N) (hs : slotsOk l N = true) {i : Nat} (hi : i < l.length) (hd : ∀ o, l.toArray[i]? = some o → ∀ e, e ∈ o.after → Region.binds .any e = true → p e.on) {v : Value} (f : Fr [] W W') (hv : (Φ.getD i Stab.any).says v W') :
    Reg l a0 Φ w0 (fun k => p k ∨ k = i) (a.put (slotOf l i) v) W' := by
  have hsz : (a.put (slotOf l i) v).tmps.size = a.tmps.size := by
    unfold Act.put
    cases slotOf l i <;> simp
  refine ⟨hsz.trans h.size, ?_, fun t ht => ?_, fun j d hj hjd => ?_, h.grown.trans f (by simp), fun j hj => ?_, fun j hj o ho e he hb => ?_⟩
  · unfold Act.put
    cases slotOf l i <;> exact h.defers
  · have h1 := h.same t (fun j hj hpj => ht j hj (.inl hpj))
    have h2 := ht i hi (.inr rfl)
    unfold Act.put
    cases hsl : slotOf l i with
    | none => exact h1
    | some d =>
      have : d ≠ t := fun e => h2 (by rw [hsl, e])
      simpa [Array.getElem?_setIfInBounds_ne this] using h1
  · by_cases hji : j = i
    · subst hji
      have hlt := slots_lt hs hi hjd
      refine ⟨v, ?_, hv⟩
      unfold Act.put
      rw [hjd]
      have : d < a.tmps.size := by rw [h.size, hN]; exact hlt
      simp [Array.getElem?_setIfInBounds, this]
    · have hpj : p j := hj.resolve_right hji
      obtain ⟨u, hu, hf⟩ := h.facts j d hpj hjd
      refine ⟨u, ?_, (Φ.getD j Stab.any).stays u W W' f hf⟩
      unfold Act.put
      cases hsl : slotOf l i with
      | none => exact hu
      | some d' =>
        have : d' ≠ d := fun e => hji (slots_ne hs (h.inside j hpj) hi hjd (by rw [hsl, e]))
        simpa [Array.getElem?_setIfInBounds_ne this] using hu
  · rcases hj with hj | hj
    · exact h.inside j hj
    · rw [hj]; exact hi
  · rcases hj with hj | hj
    · exact .inl (h.closed j hj o ho e he hb)
    · rw [hj] at ho; exact .inl (hd o ho e he hb)
/-- The frame behind the region. -/
def laid (l : List Oper) (vs : Nat → Value) (tm : Array Value) : Array Value := (List.range l.length).foldl (fun t i => match slotOf l i with | some d => t.setIfInBounds d (vs i) | none => t) tm
def slots (l : List Oper) : List (Nat × Tmp) := (List.range l.length).filterMap fun i => (slotOf l i).map fun d => (i, d)
def lay (ds : List (Nat × Tmp)) (vs : Nat → Value) (tm : Array Value) : Array Value := ds.foldl (fun t x => t.setIfInBounds x.2 (vs x.1)) tm
theorem laid_foldl_lay (l : List Oper) (vs : Nat → Value) : ∀ (js : List Nat) (tm : Array Value), (js.foldl (fun t i => match slotOf l i with | some d => t.setIfInBounds d (vs i) | none => t) tm) = lay (js.filterMap fun i => (slotOf l i).map fun d => (i, d)) vs tm
  | [], tm => rfl
  | j :: js, tm => by
    rw [List.foldl_cons, laid_foldl_lay l vs js]
    cases hs : slotOf l j with
    | none => simp [hs, lay]
    | some d => simp [hs, lay]
theorem laid_lay {l : List Oper} {ds : List (Nat × Tmp)} (h : slots l = ds) (vs : Nat → Value) (tm : Array Value) : laid l vs tm = lay ds vs tm := by
  rw [← h]
  exact laid_foldl_lay l vs _ tm
theorem laid_foldl_size (l : List Oper) (vs : Nat → Value) : ∀ (js : List Nat) (tm : Array Value), (js.foldl (fun t i => match slotOf l i with | some d => t.setIfInBounds d (vs i) | none => t) tm).size = tm.size
  | [], tm => rfl
  | j :: js, tm => by
    rw [List.foldl_cons, laid_foldl_size l vs js]
    cases slotOf l j <;> simp
theorem laid_foldl_other (l : List Oper) (vs : Nat → Value) (t : Nat) : ∀ (js : List Nat) (tm : Array Value), (∀ j, j ∈ js → slotOf l j ≠ some t) → (js.foldl (fun t i => match slotOf l i with | some d => t.setIfInBounds d (vs i) | none => t) tm)[t]? = tm[t]?
  | [], tm, _ => rfl
  | j :: js, tm, h => by
    rw [List.foldl_cons, laid_foldl_other l vs t js _ (fun k hk => h k (List.mem_cons_of_mem _ hk))]
    have := h j (List.mem_cons_self ..)
    cases hs : slotOf l j with
    | none => rfl
    | some d =>
      have : d ≠ t := fun e => this (by rw [hs, e])
      simp [Array.getElem?_setIfInBounds_ne this]
theorem laid_foldl_at (l : List Oper) (vs : Nat → Value) (N : Nat) (hs : slotsOk l N = true) (t i : Nat) (hi : i < l.length) (ht : slotOf l i = some t) : ∀ (js : List Nat) (tm : Array Value), tm.size = N → (∀ j, j ∈ js → j < l.length) → js.Nodup → i ∈ js → (js.foldl (fun t i => match slotOf l i with | some d => t.setIfInBounds d (vs i) | none => t) tm)[t]? = some (vs i)
  | [], _, _, _, _, h => by cases h
  | j :: js, tm, hN, hl, hn, h => by
    rw [List.foldl_cons]
    have hnd := List.nodup_cons.1 hn
    by_cases hji : i = j
    · subst hji
      rw [laid_foldl_other l vs t js _ (fun k hk hkt => hnd.1 (by rw [← slots_ne hs (hl k (List.mem_cons_of_mem _ hk)) hi hkt ht]; exact hk)), ht]
      have : t < tm.size := by rw [hN]; exact slots_lt hs hi ht
      simp [Array.getElem?_setIfInBounds, this]
    · refine laid_foldl_at l vs N hs t i hi ht js _ ?_ (fun k hk => hl k (List.mem_cons_of_mem _ hk)) hnd.2 ((List.mem_cons.1 h).resolve_left hji)
      cases slotOf l j with
      | none => exact hN
      | some d => simpa using hN
theorem Reg.frame (h : Reg l a0 Φ w0 p a W) (N : Nat) (hN : a0.tmps.size = N) (hs : slotsOk l N = true) (hp : ∀ i, i < l.length → p i) :
    ∃ vs : Nat → Value, (∀ i d, i < l.length → slotOf l i = some d → (Φ.getD i Stab.any).says (vs i) W) ∧ a = { tmps := laid l vs a0.tmps, defers := a0.defers } := by
  have hx : ∀ i, ∃ v, i < l.length → ∀ d, slotOf l i = some d → a.tmps[d]? = some v ∧ (Φ.getD i Stab.any).says v W := fun i => by
    by_cases hi : i < l.length
    · cases hsl : slotOf l i with
      | none => exact ⟨undef, fun _ d hd => by cases hd⟩
      | some d =>
        obtain ⟨v, h1, h2⟩ := h.facts i d (hp i hi) hsl
        exact ⟨v, fun _ d' hd' => by cases hd'; exact ⟨h1, h2⟩⟩
    · exact ⟨undef, fun hi' => absurd hi' hi⟩
  obtain ⟨vs, hvs⟩ : ∃ vs : Nat → Value, ∀ i, i < l.length → ∀ d, slotOf l i = some d → a.tmps[d]? = some (vs i) ∧ (Φ.getD i Stab.any).says (vs i) W := ⟨fun i => (hx i).choose, fun i => (hx i).choose_spec⟩
  refine ⟨vs, fun i d hi hd => (hvs i hi d hd).2, ?_⟩
  have e1 : a.tmps = laid l vs a0.tmps := by
    refine Array.ext_getElem? fun t => ?_
    by_cases hex : ∃ i, i < l.length ∧ slotOf l i = some t
    · obtain ⟨i, hi, hit⟩ := hex
      rw [(hvs i hi t hit).1]
      exact (laid_foldl_at l vs N hs t i hi hit (List.range l.length) a0.tmps hN (fun j hj => List.mem_range.1 hj) List.nodup_range (List.mem_range.2 hi)).symm
    · have hno : ∀ i, i < l.length → slotOf l i ≠ some t := fun i hi hit => hex ⟨i, hi, hit⟩
      rw [h.same t (fun i hi _ => hno i hi)]
      exact (laid_foldl_other l vs t (List.range l.length) a0.tmps (fun j hj => hno j (List.mem_range.1 hj))).symm
  have e2 := h.defers
  cases a
  dsimp only at e1 e2
  rw [e1, e2]
end

section
variable {P : Program} {Q : Exit → Act → World → Prop} {l : List Oper} {a0 a : Act} {Φ : List Stab} {w0 W : World} {p : Nat → Prop}
/-- What an operation has to show: its slot's fact; nothing that was there has turned. -/
def Sets (l : List Oper) (Φ : List Stab) (i : Nat) (a : Act) (W : World) (K : Act → World → Prop) : Prop :=
  ∀ v W', Fr [] W W' → (Φ.getD i Stab.any).says v W' → K (a.put (slotOf l i) v) W'
/-- **A region that draws its order and only adds memory.** -/
theorem region_grow {id : Nat} {w : World} (hm : P.follows .mixedOrders = true) (hu : waitsFor l.toArray = true) (Φ : List Stab) (N : Nat) (hN : a0.tmps.size = N) (hs : slotsOk l N = true) (ds : List (Nat × Tmp)) (hds : slots l = ds)
    (hstep : ∀ (p : Nat → Prop) (a : Act) (W : World) (i : Nat), i < l.length → ¬ p i → (∀ o, l.toArray[i]? = some o → ∀ e, e ∈ o.after → Region.binds .any e = true → p e.on) → Reg l a0 Φ w p a W →
      ∀ K : Act → World → Prop, Sets l Φ i a W K → wpOp P l.toArray Q i K a W)
    (hend : ∀ (vs : Nat → Value) (W : World), Fr [] w W → (∀ i d, i < l.length → slotOf l i = some d → (Φ.getD i Stab.any).says (vs i) W) → Q .normal { tmps := lay ds vs a0.tmps, defers := a0.defers } W) : (Code.region id l.toArray true).wp P Q a0 w := by
  refine region_inv2 hm hu (Reg l a0 Φ w) ?_ ?_ ?_
  · exact ⟨rfl, rfl, fun _ _ => rfl, fun i d h => h.elim, (Fr.refl _ _).drew, fun _ h => h.elim, fun _ h => h.elim⟩
  · intro p a W i hi hn hd h
    exact hstep p a W i hi hn hd h _ (fun v W' f hv => h.step N hN hs hi hd f hv)
  · intro p a W hp h
    obtain ⟨vs, h1, rfl⟩ := h.frame N hN hs hp
    rw [laid_lay hds]
    exact hend vs W h.grown h1
/-- An operation whose guard lets it, or that has none. -/
theorem op_do {i : Nat} {o : Oper} {K : Act → World → Prop} (hi : l.toArray[i]? = some o) (hw : Region.wanted o (yielded l.toArray a.tmps) = true) (hK : Sets l Φ i a W K)
    (h : ∀ K' : Act → World → Prop, (∀ v W', Fr [] W W' → (Φ.getD i Stab.any).says v W' → K' (a.put o.dst v) W') → o.wp P a W K' Q) : wpOp P l.toArray Q i K a W := by
  unfold wpOp
  rw [hi]
  simp only [hw, if_true]
  refine .inl (h K fun v W' f hv => ?_)
  have hs : slotOf l i = o.dst := by
    unfold slotOf
    rw [show l[i]? = some o by simpa using hi]
    rfl
  rw [← hs]
  exact hK v W' f hv
/-- An operation whose guard keeps it back. -/
theorem op_skip {i : Nat} {o : Oper} {K : Act → World → Prop} (hi : l.toArray[i]? = some o) (hw : Region.wanted o (yielded l.toArray a.tmps) = false) (hK : Sets l Φ i a W K) (hv : (Φ.getD i Stab.any).says undef W) : wpOp P l.toArray Q i K a W := by
  unfold wpOp
  rw [hi]
  simp only [hw]
  have hs : slotOf l i = o.dst := by
    unfold slotOf
    rw [show l[i]? = some o by simpa using hi]
    rfl
  rw [← hs]
  exact hK undef W (Fr.refl _ _) hv
theorem wanted_none {o : Oper} {y : Nat → Option Bool} (h : o.guard = none) : Region.wanted o y = true := by simp [Region.wanted, h]
end

section
variable {F : Fence} {n : Nat} {P : Program} {Q : Exit → Act → World → Prop} {l : List Oper} {a0 a : Act} {Φ : List Stab} {w0 W : World} {p : Nat → Prop}
/-- .. within a fence. -/
theorem region_grow_in {id : Nat} {w : World} (hm : P.follows .mixedOrders = true) (hu : waitsFor l.toArray = true) (Φ : List Stab) (N : Nat) (hN : a0.tmps.size = N) (hs : slotsOk l N = true) (ds : List (Nat × Tmp)) (hds : slots l = ds)
    (hstep : ∀ (p : Nat → Prop) (a : Act) (W : World) (i : Nat), i < l.length → ¬ p i → (∀ o, l.toArray[i]? = some o → ∀ e, e ∈ o.after → Region.binds .any e = true → p e.on) → Reg l a0 Φ w p a W →
      ∀ K : Act → World → Prop, Sets l Φ i a W K → wpOpIn F n P l.toArray Q i K a W)
    (hend : ∀ (vs : Nat → Value) (W : World), Fr [] w W → (∀ i d, i < l.length → slotOf l i = some d → (Φ.getD i Stab.any).says (vs i) W) → Q .normal { tmps := lay ds vs a0.tmps, defers := a0.defers } W) : (Code.region id l.toArray true).wpIn F n P Q a0 w := by
  refine region_inv_in2 hm hu (Reg l a0 Φ w) ?_ ?_ ?_
  · exact ⟨rfl, rfl, fun _ _ => rfl, fun i d h => h.elim, (Fr.refl _ _).drew, fun _ h => h.elim, fun _ h => h.elim⟩
  · intro p a W i hi hn hd h
    exact hstep p a W i hi hn hd h _ (fun v W' f hv => h.step N hN hs hi hd f hv)
  · intro p a W hp h
    obtain ⟨vs, h1, rfl⟩ := h.frame N hN hs hp
    rw [laid_lay hds]
    exact hend vs W h.grown h1
theorem op_do_in {i : Nat} {o : Oper} {K : Act → World → Prop} (hi : l.toArray[i]? = some o) (hw : Region.wanted o (yielded l.toArray a.tmps) = true) (hK : Sets l Φ i a W K)
    (h : ∀ K' : Act → World → Prop, (∀ v W', Fr [] W W' → (Φ.getD i Stab.any).says v W' → K' (a.put o.dst v) W') → o.wpIn F n P a W K' Q) : wpOpIn F n P l.toArray Q i K a W := by
  unfold wpOpIn
  rw [hi]
  simp only [hw, if_true]
  refine h K fun v W' f hv => ?_
  have hs : slotOf l i = o.dst := by
    unfold slotOf
    rw [show l[i]? = some o by simpa using hi]
    rfl
  rw [← hs]
  exact hK v W' f hv
end

/-! ### .. where an operation also changes memory -/
/-- vals: the values of the slots that are known ahead; Ψ: what is sure of the world and of other slots. -/
structure RegC (l : List Oper) (a0 : Act) (vals : List (Option Value)) (Ψ : (Nat → Prop) → (Nat → Option Value) → World → Prop) (p : Nat → Prop) (a : Act) (W : World) : Prop where
  size : a.tmps.size = a0.tmps.size
  defers : a.defers = a0.defers
  same : ∀ t, (∀ i, i < l.length → p i → slotOf l i ≠ some t) → a.tmps[t]? = a0.tmps[t]?
  det : ∀ i d v, p i → slotOf l i = some d → vals.getD i none = some v → a.tmps[d]? = some v
  world : Ψ p (fun t => a.tmps[t]?) W
  inside : ∀ i, p i → i < l.length
  closed : ∀ i, p i → ∀ o, l.toArray[i]? = some o → ∀ e, e ∈ o.after → Region.binds .any e = true → p e.on
section
variable {l : List Oper} {a0 a : Act} {vals : List (Option Value)} {Ψ : (Nat → Prop) → (Nat → Option Value) → World → Prop} {W W' : World} {p : Nat → Prop}
theorem RegC.val (h : RegC l a0 vals Ψ p a W) {v : Value} (i d : Nat) (hp : p i) (hd : slotOf l i = some d) (hv : vals.getD i none = some v) : a.tmps[d]? = some v := h.det i d v hp hd hv
theorem RegC.old (h : RegC l a0 vals Ψ p a W) (t : Nat) (hn : ((List.range l.length).all fun i => slotOf l i != some t) = true) : a.tmps[t]? = a0.tmps[t]? :=
  h.same t fun i hi _ hs => by
    have := List.all_eq_true.1 hn i (List.mem_range.2 hi)
    rw [hs] at this
    simp at this
theorem RegC.yet (h : RegC l a0 vals Ψ p a W) (N : Nat) (hs : slotsOk l N = true) (t j : Nat) (hj : j < l.length) (hjt : slotOf l j = some t) (hnp : ¬ p j) : a.tmps[t]? = a0.tmps[t]? :=
  h.same t fun i hi hp h1 => by
    have := slots_ne hs hi hj h1 hjt
    subst this
    exact hnp hp
theorem put_at {tm : Array Value} {df : List Deferred} (d t : Nat) (v : Value) (ht : t < tm.size) : (Act.put { tmps := tm, defers := df } (some d) v).tmps[t]? = if t = d then some v else tm[t]? := by
  unfold Act.put
  by_cases h : t = d
  · subst h
    simp [Array.getElem?_setIfInBounds, ht]
  · rw [if_neg h]
    simp [Array.getElem?_setIfInBounds_ne (Ne.symm h)]
theorem RegC.step (h : RegC l a0 vals Ψ p a W) (N : Nat) (hN : a0.tmps.size = N) (hs : slotsOk l N = true) {i : Nat} (hi : i < l.length) (hd : ∀ o, l.toArray[i]? = some o → ∀ e, e ∈ o.after → Region.binds .any e = true → p e.on) {v : Value} (hv : ∀ u, vals.getD i none = some u → v = u)
    (hΨ : Ψ (fun k => p k ∨ k = i) (fun t => (a.put (slotOf l i) v).tmps[t]?) W') :
    RegC l a0 vals Ψ (fun k => p k ∨ k = i) (a.put (slotOf l i) v) W' := by
  have hsz : (a.put (slotOf l i) v).tmps.size = a.tmps.size := by
    unfold Act.put
    cases slotOf l i <;> simp
  refine ⟨hsz.trans h.size, ?_, fun t ht => ?_, fun j d u hj hjd hu => ?_, hΨ, fun j hj => ?_, fun j hj o ho e he hb => ?_⟩
  · unfold Act.put
    cases slotOf l i <;> exact h.defers
  · have h1 := h.same t (fun j hj hpj => ht j hj (.inl hpj))
    have h2 := ht i hi (.inr rfl)
    unfold Act.put
    cases hsl : slotOf l i with
    | none => exact h1
    | some d =>
      have : d ≠ t := fun e => h2 (by rw [hsl, e])
      simpa [Array.getElem?_setIfInBounds_ne this] using h1
  · by_cases hji : j = i
    · subst hji
      have hlt := slots_lt hs hi hjd
      have hvu := hv u hu
      subst hvu
      unfold Act.put
      rw [hjd]
      have : d < a.tmps.size := by rw [h.size, hN]; exact hlt
      simp [Array.getElem?_setIfInBounds, this]
    · have hpj : p j := hj.resolve_right hji
      have h1 := h.det j d u hpj hjd hu
      unfold Act.put
      cases hsl : slotOf l i with
      | none => exact h1
      | some d' =>
        have : d' ≠ d := fun e => hji (slots_ne hs (h.inside j hpj) hi hjd (by rw [hsl, e]))
        simpa [Array.getElem?_setIfInBounds_ne this] using h1
  · rcases hj with hj | hj
    · exact h.inside j hj
    · rw [hj]; exact hi
  · rcases hj with hj | hj
    · exact .inl (h.closed j hj o ho e he hb)
    · rw [hj] at ho; exact .inl (hd o ho e he hb)
theorem RegC.frame (h : RegC l a0 vals Ψ p a W) (N : Nat) (hN : a0.tmps.size = N) (hs : slotsOk l N = true) (hp : ∀ i, i < l.length → p i) :
    ∃ vs : Nat → Value, (∀ i d v, i < l.length → slotOf l i = some d → vals.getD i none = some v → vs i = v) ∧ a = { tmps := laid l vs a0.tmps, defers := a0.defers } := by
  have hx : ∀ i, ∃ v, i < l.length → ∀ d, slotOf l i = some d → a.tmps[d]? = some v := fun i => by
    by_cases hi : i < l.length
    · cases hsl : slotOf l i with
      | none => exact ⟨undef, fun _ d hd => by cases hd⟩
      | some d =>
        have hlt := slots_lt hs hi hsl
        exact ⟨a.tmps[d]'(by rw [h.size, hN]; exact hlt), fun _ d' hd' => by cases hd'; simp [h.size, hN, hlt]⟩
    · exact ⟨undef, fun hi' => absurd hi' hi⟩
  obtain ⟨vs, hvs⟩ : ∃ vs : Nat → Value, ∀ i, i < l.length → ∀ d, slotOf l i = some d → a.tmps[d]? = some (vs i) := ⟨fun i => (hx i).choose, fun i => (hx i).choose_spec⟩
  refine ⟨vs, fun i d v hi hd hv => ?_, ?_⟩
  · have h1 := hvs i hi d hd
    have h2 := h.det i d v (hp i hi) hd hv
    rw [h1] at h2
    exact Option.some.inj h2
  have e1 : a.tmps = laid l vs a0.tmps := by
    refine Array.ext_getElem? fun t => ?_
    by_cases hex : ∃ i, i < l.length ∧ slotOf l i = some t
    · obtain ⟨i, hi, hit⟩ := hex
      rw [hvs i hi t hit]
      exact (laid_foldl_at l vs N hs t i hi hit (List.range l.length) a0.tmps hN (fun j hj => List.mem_range.1 hj) List.nodup_range (List.mem_range.2 hi)).symm
    · have hno : ∀ i, i < l.length → slotOf l i ≠ some t := fun i hi hit => hex ⟨i, hi, hit⟩
      rw [h.same t (fun i hi _ => hno i hi)]
      exact (laid_foldl_other l vs t (List.range l.length) a0.tmps (fun j hj => hno j (List.mem_range.1 hj))).symm
  have e2 := h.defers
  cases a
  dsimp only at e1 e2
  rw [e1, e2]
end
section
variable {P : Program} {Q : Exit → Act → World → Prop} {l : List Oper} {a0 a : Act} {vals : List (Option Value)} {Ψ : (Nat → Prop) → (Nat → Option Value) → World → Prop} {W : World} {p : Nat → Prop}
def SetsC (l : List Oper) (vals : List (Option Value)) (Ψ : (Nat → Prop) → (Nat → Option Value) → World → Prop) (p : Nat → Prop) (i : Nat) (a : Act) (K : Act → World → Prop) : Prop :=
  ∀ v W', (∀ u, vals.getD i none = some u → v = u) → Ψ (fun k => p k ∨ k = i) (fun t => (a.put (slotOf l i) v).tmps[t]?) W' → K (a.put (slotOf l i) v) W'
/-- **A region that draws its order and changes memory.** -/
theorem region_chg {id : Nat} {w : World} (hm : P.follows .mixedOrders = true) (hu : waitsFor l.toArray = true) (vals : List (Option Value)) (Ψ : (Nat → Prop) → (Nat → Option Value) → World → Prop) (N : Nat) (hN : a0.tmps.size = N) (hs : slotsOk l N = true) (ds : List (Nat × Tmp)) (hds : slots l = ds)
    (h0 : Ψ (fun _ => False) (fun t => a0.tmps[t]?) w.drew)
    (hstep : ∀ (p : Nat → Prop) (a : Act) (W : World) (i : Nat), i < l.length → ¬ p i → (∀ o, l.toArray[i]? = some o → ∀ e, e ∈ o.after → Region.binds .any e = true → p e.on) → RegC l a0 vals Ψ p a W →
      ∀ K : Act → World → Prop, SetsC l vals Ψ p i a K → wpOp P l.toArray Q i K a W)
    (hend : ∀ (vs : Nat → Value) (p : Nat → Prop) (W : World), (∀ i, i < l.length → p i) → Ψ p (fun t => (lay ds vs a0.tmps)[t]?) W → (∀ i d v, i < l.length → slotOf l i = some d → vals.getD i none = some v → vs i = v) → Q .normal { tmps := lay ds vs a0.tmps, defers := a0.defers } W) : (Code.region id l.toArray true).wp P Q a0 w := by
  refine region_inv2 hm hu (RegC l a0 vals Ψ) ?_ ?_ ?_
  · exact ⟨rfl, rfl, fun _ _ => rfl, fun i d v h => h.elim, h0, fun _ h => h.elim, fun _ h => h.elim⟩
  · intro p a W i hi hn hd h
    exact hstep p a W i hi hn hd h _ (fun v W' hv hΨ => h.step N hN hs hi hd hv hΨ)
  · intro p a W hp h
    obtain ⟨vs, h1, rfl⟩ := h.frame N hN hs hp
    have h2 := h.world
    rw [laid_lay hds] at h2 ⊢
    exact hend vs p W hp h2 h1
theorem op_doC {i : Nat} {o : Oper} {K : Act → World → Prop} (hi : l.toArray[i]? = some o) (hw : Region.wanted o (yielded l.toArray a.tmps) = true) (hK : SetsC l vals Ψ p i a K)
    (h : ∀ K' : Act → World → Prop, (∀ v W', (∀ u, vals.getD i none = some u → v = u) → Ψ (fun k => p k ∨ k = i) (fun t => (a.put o.dst v).tmps[t]?) W' → K' (a.put o.dst v) W') → o.wp P a W K' Q) : wpOp P l.toArray Q i K a W := by
  unfold wpOp
  rw [hi]
  simp only [hw, if_true]
  have hs : slotOf l i = o.dst := by
    unfold slotOf
    rw [show l[i]? = some o by simpa using hi]
    rfl
  refine .inl (h K fun v W' hv hΨ => ?_)
  rw [← hs] at hΨ ⊢
  exact hK v W' hv hΨ
end
end Go.Proofs.YtbpgpjibljgiiaaDoor
