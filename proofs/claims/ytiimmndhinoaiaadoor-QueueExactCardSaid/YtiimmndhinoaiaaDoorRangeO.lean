/-
  A range over a function whose iterator hands each round something that it made for it. Made from Range.
-/
import Derived.Test.YtiimmndhinoaiaaDoorRangeIn
namespace Go.Proofs.YtiimmndhinoaiaaDoor
open Go.RowKit
set_option linter.unusedVariables false

/-- .. Ok: what is sure of the value that a round is handed (n0: where new memory begins). -/
def TellsO {α : Type} (F : Fence) (n : Nat) (P : Program) (g : Nat) (lb : Array Value) (encs : α → Array Value) (Rs : List Nat) (Kp : World → World → Prop) (S Sp : List α → Prop) (N : Nat) (Pre En : World → Prop) (Ok : Nat → List α → α → World → Prop) : Prop :=
  ∀ (l : Nat) (J Jx : List α → World → Prop) (W : World), Pre W → Ab W.heap.size Rs J → Ab W.heap.size Rs Jx →
    (∀ pre x W1, J pre W1 → Ok W.heap.size pre x W1 → pre.length < N → YieldAt F (n - 1) P l (encs x) W1 fun e W' =>
      Kp W1 W' ∧ ((e = .returned (.bool true) ∧ J (pre ++ [x]) W') ∨ (e = .returned (.bool false) ∧ Jx (pre ++ [x]) W'))) →
    J [] W →
    CallsIn F n P g (#[.func (.yield l) #[] #[]] ++ lb) W fun e W' => (∃ v, e = .returned v) ∧ En W' ∧ ((∃ xs, S xs ∧ J xs W') ∨ (∃ pre, Sp pre ∧ Jx pre W'))
section
variable {F : Fence} {n : Nat} {P : Program}
/-- **The range over a function.** -/
theorem wpIn_rangeO {α : Type} {g : Operand} {ps : Array Tmp} {assign body : Code} {Q : Exit → Act → World → Prop} {a : Act} {w : World}
    (hro : F.round = none) (h1 : 1 ≤ n) {gf : Nat} {lb : Array Value} (hg : a.eval g = .func (.func gf) #[] lb) (hFg : F.fn gf) (eg : ∀ args w, (callFunc gf args).run P w = .ok (.enter gf args) w)
    {encs : α → Array Value} {Rs : List Nat} {Kp : World → World → Prop} {S Sp : List α → Prop} {N : Nat} {Pre En : World → Prop} {Ok : Nat → List α → α → World → Prop} (hseq : TellsO F (n - 1) P gf lb encs Rs Kp S Sp N Pre En Ok)
    (hKt : ∀ {A B C : World}, Kp A B → Kp B C → Kp A C) (hKb : ∀ (W : World) (l : Nat) (o o' : Obj), l = w.heap.size + 1 → W.heap[l]? = some o → o.isCells = false → Kp W (W.putObj l o'))
    (hPre : ∀ W, Fr [] w W → W.heap.size = w.heap.size + 2 → Pre W) (hEn : ∀ (W : World) (l : Nat) (o o' : Obj), l = w.heap.size + 1 → W.heap[l]? = some o → o.isCells = false → En W → En (W.putObj l o'))
    (hRs : ∀ r, r ∈ Rs → r < w.heap.size) (hps : ∀ x, (encs x).size = ps.size)
    (I : List α → World → Prop) (Ix : Code → List α → World → Prop) (hI : Ab w.heap.size Rs I) (hIx : ∀ c, Ab w.heap.size Rs (Ix c)) (h0 : I [] w) (Ax : α → Act → World → Prop) (hAx : ∀ x a', OwnFrom w.heap.size (fun (_ : Unit) W => Ax x a' W))
    (hassign : ∀ (l : Nat) (pre : List α) (x : α) (W : World) (K : Act → World → Prop), I pre W → Ok (w.heap.size + 2) pre x W → (∀ a' W', KeepsFrom w.heap.size W W' → Kp W W' → I pre W' → Ax x a' W' → K a' W') →
      assign.wpIn (F.inRound l) (n - 1 - 1) P (Exit.then K (fun _ _ _ => False)) { tmps := (ps.zip (encs x)).foldl (fun t (p, v) => t.setIfInBounds p v) a.tmps, defers := [] } W)
    (hbody : ∀ (l : Nat) (pre : List α) (x : α) (a' : Act) (W : World), w.heap.size ≤ l → (∃ r, W.heap[l]? = some (.loop r)) → I pre W → Ax x a' W → pre.length < N → body.wpIn (F.inRound l) (n - 1 - 1) P (leftBy w.heap.size Kp I Ix (pre ++ [x]) W) a' W)
    (hdone : ∀ (D : Nat) (xs : List α) (W : World), w.heap.size ≤ D → S xs → I xs W → En W → W.heap[D]? = some (.deferred (some [])) → Q .normal { a with defers := { target := .collected D, args := #[] } :: a.defers } W)
    (hstop : ∀ (D : Nat) (c : Code) (pre : List α) (W : World), w.heap.size ≤ D → Sp pre → Ix c pre W → En W → W.heap[D]? = some (.deferred (some [])) → c.wpIn F n P Q { a with defers := { target := .collected D, args := #[] } :: a.defers } W) :
    (Code.rangeFunc g ps assign body).wpIn F n P Q a w := by
  refine wpIn_rangeFunc fun fn hfn => ?_
  rw [hro]
  obtain ⟨z, hz⟩ : ∃ z, z = w.heap.size := ⟨_, rfl⟩
  obtain ⟨W1, hW1⟩ : ∃ W1, (w.alloc (.deferred (some []))).alloc (.loop (lrec fn a.tmps ps assign body w.heap.size .ready none)) = W1 := ⟨_, rfl⟩
  have hL1 : W1.heap[z + 1]? = some (.loop (lrec fn a.tmps ps assign body z .ready none)) := by
    rw [← hW1, hz]
    simpa using World.alloc_heap_new (w.alloc (.deferred (some []))) (.loop (lrec fn a.tmps ps assign body w.heap.size .ready none))
  have hD1 : W1.heap[z]? = some (.deferred (some [])) := by
    rw [← hW1, hz]
    exact (Below.heap_alloc _ _ _ (by simp)).trans (World.alloc_heap_new w _)
  have hsz : W1.heap.size = z + 2 := by rw [← hW1, hz]; simp
  have hI1 : I [] W1 := by rw [← hW1]; exact hI.alloc (hI.alloc h0 _) _
  have hF1 : Fr [] w W1 := by rw [← hW1]; exact ((Fr.refl [] w).alloc _).alloc _
  refine ⟨z + 1, [{ target := .collected z, args := #[] }], W1, { target := .fn (.func gf) lb, args := #[.func (.yield (z + 1)) #[] #[]] }, W1, gf, #[.func (.yield (z + 1)) #[] #[]] ++ lb, W1, ?_, ?_, ?_, ?_, fun _ => h1, ?_⟩
  · rw [← hW1, hz]; exact run_enterLoop_outer _ _ _ _ _
  · simp only [resolve, hg]
    simp [go_sem]
  · intro f' hf'; simp [Target.leads] at hf'; subst hf'; exact hFg
  · simp [invoke, go_sem, eg]
  rw [← hz] at hKb hEn hRs hI hIx hAx hassign hbody hdone hstop
  have hout : ∀ {A A' : World} {row : Option Nat} {k : Nat}, (k = z ∨ k = z + 1) → A.grownBy A' row → (∀ r, row = some r → r ∈ Rs ∨ (W1.heap.size ≤ r ∧ ∃ o : Obj, A.heap[r]? = some o ∧ o.isCells = false)) → ∀ {o : Obj}, A.heap[k]? = some o → A'.heap[k]? = some o := by
    intro A A' row k hk hg hr o ho
    refine (hg.block k (Array.getElem?_eq_some_iff.1 ho).1 (fun e => ?_)).trans ho
    rcases hr k e.symm with h | h
    · have := hRs k h; omega
    · omega
  have habs : ∀ {A : World} {row : Option Nat}, (∀ r, row = some r → r ∈ Rs ∨ (W1.heap.size ≤ r ∧ ∃ o : Obj, A.heap[r]? = some o ∧ o.isCells = false)) → (∀ r, row = some r → r ∈ Rs ∨ (z ≤ r ∧ ∃ o : Obj, A.heap[r]? = some o ∧ o.isCells = false)) :=
    fun hr r e => (hr r e).imp id (fun h => ⟨by omega, h.2⟩)
  refine (hseq (z + 1)
    (fun pre W => I pre W ∧ W.heap[z + 1]? = some (.loop (lrec fn a.tmps ps assign body z .ready none)) ∧ W.heap[z]? = some (.deferred (some [])))
    (fun pre W => ∃ c, Ix c pre W ∧ W.heap[z + 1]? = some (.loop (lrec fn a.tmps ps assign body z .done (some c))) ∧ W.heap[z]? = some (.deferred (some [])))
    W1 (hPre _ hF1 (by omega))
    (fun s A A' row h hg hr => ⟨hI s A A' row h.1 hg (habs hr), hout (.inr rfl) hg hr h.2.1, hout (.inl rfl) hg hr h.2.2⟩)
    (fun s A A' row h hg hr => by
      obtain ⟨c, hc, hl, hd⟩ := h
      exact ⟨c, hIx c s A A' row hc hg (habs hr), hout (.inr rfl) hg hr hl, hout (.inl rfl) hg hr hd⟩)
    ?_ ⟨hI1, hL1, hD1⟩).mono ?_
  · rintro pre x W ⟨hi, hl, hd⟩ hok hlen
    rw [hsz] at hok
    refine yield_left (α := α) (B := z) (J := I) (Jx := Ix) (Kp := Kp) (xs := pre ++ [x]) hfn hl (hps x) (by omega)
      (hassign (z + 1) pre x W _ hi hok ?_)
    intro a' Wa hka hpa hia hax
    have hla := hka.same (z + 1) _ (by omega) hl rfl
    have hda := hka.same z _ (Nat.le_refl _) hd rfl
    have hlt := (Array.getElem?_eq_some_iff.1 hla).1
    have hbusy : (Wa.putObj (z + 1) (.loop (lrec fn a.tmps ps assign body z .busy none))).heap[z + 1]? = some (.loop (lrec fn a.tmps ps assign body z .busy none)) := World.putObj_heap_same hlt
    have hd2 : (Wa.putObj (z + 1) (.loop (lrec fn a.tmps ps assign body z .busy none))).heap[z]? = some (.deferred (some [])) := (World.putObj_heap_other (by omega)).trans hda
    have hp2 := hKt hpa (hKb Wa (z + 1) _ (.loop (lrec fn a.tmps ps assign body z .busy none)) (by omega) hla rfl)
    have hfin : ∀ W3 (o' : Obj), KeepsFrom z (Wa.putObj (z + 1) (.loop (lrec fn a.tmps ps assign body z .busy none))) W3 → (W3.putObj (z + 1) o').heap[z]? = some (.deferred (some [])) := fun W3 o' hk3 =>
      (World.putObj_heap_other (by omega)).trans (hk3.same z _ (Nat.le_refl _) hd2 rfl)
    refine ⟨hka, hbody (z + 1) pre x a' _ (by omega) ⟨_, hbusy⟩ (hI.put hia hla (by omega) rfl _) ((hAx x a').putObj (s := ()) _ hax (by omega) hla rfl) hlen, ?_⟩
    · intro W3 hk3 hp3 hl3
      have hlt3 := (Array.getElem?_eq_some_iff.1 hl3).1
      refine ⟨fun h => ⟨hKt (hKt hp2 hp3) (hKb _ _ _ _ (by omega) hl3 rfl), .inl ⟨rfl, hI.put h hl3 (by omega) rfl _, World.putObj_heap_same hlt3, hfin _ _ hk3⟩⟩,
        fun c h => ⟨hKt (hKt hp2 hp3) (hKb _ _ _ _ (by omega) hl3 rfl), .inr ⟨rfl, c, (hIx c).put h hl3 (by omega) rfl _, World.putObj_heap_same hlt3, hfin _ _ hk3⟩⟩⟩
  · rintro e W2 ⟨⟨v, rfl⟩, hen, (⟨xs, hS, hi, hl, hd⟩ | ⟨pre, hSp, c, hi, hl, hd⟩)⟩
    · exact ⟨none, _, run_endLoop hl (by simp [lrec]), hdone z xs _ (Nat.le_refl _) hS (hI.put hi hl (by omega) rfl _) (hEn _ _ _ _ (by omega) hl rfl hen) ((World.putObj_heap_other (by omega)).trans hd)⟩
    · exact ⟨some c, _, run_endLoop hl (by simp [lrec]), hstop z c pre _ (Nat.le_refl _) hSp ((hIx c).put hi hl (by omega) rfl _) (hEn _ _ _ _ (by omega) hl rfl hen) ((World.putObj_heap_other (by omega)).trans hd)⟩

theorem wpIn_rangeO_tm {α : Type} {g : Operand} {ps : Array Tmp} {assign body : Code} {Q : Exit → Act → World → Prop} {a : Act} {w : World}
    (hro : F.round = none) (h1 : 1 ≤ n) {gf : Nat} {lb : Array Value} (hg : a.eval g = .func (.func gf) #[] lb) (hFg : F.fn gf) (eg : ∀ args w, (callFunc gf args).run P w = .ok (.enter gf args) w)
    {encs : α → Array Value} {Rs : List Nat} {Kp : World → World → Prop} {S Sp : List α → Prop} {N : Nat} {Pre En : World → Prop} {Ok : Nat → List α → α → World → Prop} (hseq : TellsO F (n - 1) P gf lb encs Rs Kp S Sp N Pre En Ok)
    (hKt : ∀ {A B C : World}, Kp A B → Kp B C → Kp A C) (hKb : ∀ (W : World) (l : Nat) (o o' : Obj), l = w.heap.size + 1 → W.heap[l]? = some o → o.isCells = false → Kp W (W.putObj l o'))
    (hPre : ∀ W, Fr [] w W → W.heap.size = w.heap.size + 2 → Pre W) (hEn : ∀ (W : World) (l : Nat) (o o' : Obj), l = w.heap.size + 1 → W.heap[l]? = some o → o.isCells = false → En W → En (W.putObj l o'))
    (hRs : ∀ r, r ∈ Rs → r < w.heap.size) (hps : ∀ x, (encs x).size = ps.size)
    (I : List α → World → Prop) (Ix : Code → List α → World → Prop) (hI : Ab w.heap.size Rs I) (hIx : ∀ c, Ab w.heap.size Rs (Ix c)) (h0 : I [] w) (Ax : Array Value → α → Act → World → Prop) (hAx : ∀ x a', OwnFrom w.heap.size (fun (_ : Unit) W => Ax a.tmps x a' W))
    (hassign : ∀ (l : Nat) (pre : List α) (x : α) (W : World) (K : Act → World → Prop), I pre W → Ok (w.heap.size + 2) pre x W → (∀ a' W', KeepsFrom w.heap.size W W' → Kp W W' → I pre W' → Ax a.tmps x a' W' → K a' W') →
      assign.wpIn (F.inRound l) (n - 1 - 1) P (Exit.then K (fun _ _ _ => False)) { tmps := (ps.zip (encs x)).foldl (fun t (p, v) => t.setIfInBounds p v) a.tmps, defers := [] } W)
    (hbody : ∀ (l : Nat) (pre : List α) (x : α) (a' : Act) (W : World), w.heap.size ≤ l → (∃ r, W.heap[l]? = some (.loop r)) → I pre W → Ax a.tmps x a' W → pre.length < N → body.wpIn (F.inRound l) (n - 1 - 1) P (leftBy w.heap.size Kp I Ix (pre ++ [x]) W) a' W)
    (hdone : ∀ (D : Nat) (xs : List α) (W : World), w.heap.size ≤ D → S xs → I xs W → En W → W.heap[D]? = some (.deferred (some [])) → Q .normal { a with defers := { target := .collected D, args := #[] } :: a.defers } W)
    (hstop : ∀ (D : Nat) (c : Code) (pre : List α) (W : World), w.heap.size ≤ D → Sp pre → Ix c pre W → En W → W.heap[D]? = some (.deferred (some [])) → c.wpIn F n P Q { a with defers := { target := .collected D, args := #[] } :: a.defers } W) :
    (Code.rangeFunc g ps assign body).wpIn F n P Q a w :=
  wpIn_rangeO hro h1 hg hFg eg hseq hKt hKb hPre hEn hRs hps I Ix hI hIx h0 (Ax a.tmps) hAx hassign hbody hdone hstop
end
end Go.Proofs.YtiimmndhinoaiaaDoor
