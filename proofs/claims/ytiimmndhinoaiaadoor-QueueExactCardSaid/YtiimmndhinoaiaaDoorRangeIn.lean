/-
  A range over a function within a round of another one.
-/
import Derived.Test.YtiimmndhinoaiaaDoorRange
namespace Go.Proofs.YtiimmndhinoaiaaDoor
open Go.RowKit
set_option linter.unusedVariables false
section
variable {F : Fence} {n : Nat} {P : Program}

/-- **The range over a function, within a round of another one.** -/
theorem wpIn_range_in {α : Type} {g : Operand} {ps : Array Tmp} {assign body : Code} {Q : Exit → Act → World → Prop} {a : Act} {w : World}
    {l₀ : Nat} {r₀ : Loop} (hro : F.round = some l₀) (hr₀ : w.heap[l₀]? = some (.loop r₀)) (h1 : 1 ≤ n) {gf : Nat} {lb : Array Value} (hg : a.eval g = .func (.func gf) #[] lb) (hFg : F.fn gf) (eg : ∀ args w, (callFunc gf args).run P w = .ok (.enter gf args) w)
    {encs : α → Array Value} {Rs : List Nat} {Kp : World → World → Prop} {S Sp : List α → Prop} {N : Nat} {Pre En : World → Prop} (hseq : Tells F (n - 1) P gf lb encs Rs Kp S Sp N Pre En)
    (hKt : ∀ {A B C : World}, Kp A B → Kp B C → Kp A C) (hKb : ∀ (W : World) (l : Nat) (o o' : Obj), l = w.heap.size → W.heap[l]? = some o → o.isCells = false → Kp W (W.putObj l o'))
    (hPre : ∀ W, Fr [] w W → W.heap.size = w.heap.size + 1 → Pre W) (hEn : ∀ (W : World) (l : Nat) (o o' : Obj), l = w.heap.size → W.heap[l]? = some o → o.isCells = false → En W → En (W.putObj l o'))
    (hRs : ∀ r, r ∈ Rs → r < w.heap.size) (hps : ∀ x, (encs x).size = ps.size)
    (I : List α → World → Prop) (Ix : Code → List α → World → Prop) (hI : Ab w.heap.size Rs I) (hIx : ∀ c, Ab w.heap.size Rs (Ix c)) (h0 : I [] w) (Ax : α → Act → World → Prop) (hAx : ∀ x a', OwnFrom w.heap.size (fun (_ : Unit) W => Ax x a' W))
    (hassign : ∀ (l : Nat) (pre : List α) (x : α) (W : World) (K : Act → World → Prop), I pre W → (∀ a' W', KeepsFrom w.heap.size W W' → Kp W W' → I pre W' → Ax x a' W' → K a' W') →
      assign.wpIn (F.inRound l) (n - 1 - 1) P (Exit.then K (fun _ _ _ => False)) { tmps := (ps.zip (encs x)).foldl (fun t (p, v) => t.setIfInBounds p v) a.tmps, defers := [] } W)
    (hbody : ∀ (l : Nat) (pre : List α) (x : α) (a' : Act) (W : World), w.heap.size ≤ l → (∃ r, W.heap[l]? = some (.loop r)) → I pre W → Ax x a' W → pre.length < N → body.wpIn (F.inRound l) (n - 1 - 1) P (leftBy w.heap.size Kp I Ix (pre ++ [x]) W) a' W)
    (hdone : ∀ (xs : List α) (W : World), S xs → I xs W → En W → Q .normal a W)
    (hstop : ∀ (c : Code) (pre : List α) (W : World), Sp pre → Ix c pre W → En W → c.wpIn F n P Q a W) :
    (Code.rangeFunc g ps assign body).wpIn F n P Q a w := by
  refine wpIn_rangeFunc fun fn hfn => ?_
  rw [hro]
  obtain ⟨z, hz⟩ : ∃ z, z = w.heap.size := ⟨_, rfl⟩
  obtain ⟨W1, hW1⟩ : ∃ W1, w.alloc (.loop (lrec fn a.tmps ps assign body r₀.defers .ready none)) = W1 := ⟨_, rfl⟩
  have hL1 : W1.heap[z]? = some (.loop (lrec fn a.tmps ps assign body r₀.defers .ready none)) := by
    rw [← hW1, hz]
    exact World.alloc_heap_new w _
  have hsz : W1.heap.size = z + 1 := by rw [← hW1, hz]; simp
  have hI1 : I [] W1 := by rw [← hW1]; exact hI.alloc h0 _
  have hF1 : Fr [] w W1 := by rw [← hW1]; exact (Fr.refl [] w).alloc _
  refine ⟨z, [], W1, { target := .fn (.func gf) lb, args := #[.func (.yield z) #[] #[]] }, W1, gf, #[.func (.yield z) #[] #[]] ++ lb, W1, ?_, ?_, ?_, ?_, fun _ => h1, ?_⟩
  · rw [← hW1, hz]; exact run_enterLoop_inner hr₀ _ _ _ _ _
  · simp only [resolve, hg]
    simp [go_sem]
  · intro f' hf'; simp [Target.leads] at hf'; subst hf'; exact hFg
  · simp [invoke, go_sem, eg]
  rw [← hz] at hKb hEn hRs hI hIx hAx hassign hbody
  have hout : ∀ {A A' : World} {row : Option Nat}, A.grownBy A' row → (∀ r, row = some r → r ∈ Rs ∨ (W1.heap.size ≤ r ∧ ∃ o : Obj, A.heap[r]? = some o ∧ o.isCells = false)) → ∀ {o : Obj}, A.heap[z]? = some o → A'.heap[z]? = some o := by
    intro A A' row hg hr o ho
    refine (hg.block z (Array.getElem?_eq_some_iff.1 ho).1 (fun e => ?_)).trans ho
    rcases hr z e.symm with h | h
    · have := hRs z h; omega
    · omega
  have habs : ∀ {A : World} {row : Option Nat}, (∀ r, row = some r → r ∈ Rs ∨ (W1.heap.size ≤ r ∧ ∃ o : Obj, A.heap[r]? = some o ∧ o.isCells = false)) → (∀ r, row = some r → r ∈ Rs ∨ (z ≤ r ∧ ∃ o : Obj, A.heap[r]? = some o ∧ o.isCells = false)) :=
    fun hr r e => (hr r e).imp id (fun h => ⟨by omega, h.2⟩)
  refine (hseq z
    (fun pre W => I pre W ∧ W.heap[z]? = some (.loop (lrec fn a.tmps ps assign body r₀.defers .ready none)))
    (fun pre W => ∃ c, Ix c pre W ∧ W.heap[z]? = some (.loop (lrec fn a.tmps ps assign body r₀.defers .done (some c))))
    W1 (hPre _ hF1 (by omega))
    (fun s A A' row h hg hr => ⟨hI s A A' row h.1 hg (habs hr), hout hg hr h.2⟩)
    (fun s A A' row h hg hr => by
      obtain ⟨c, hc, hl⟩ := h
      exact ⟨c, hIx c s A A' row hc hg (habs hr), hout hg hr hl⟩)
    ?_ ⟨hI1, hL1⟩).mono ?_
  · rintro pre x W ⟨hi, hl⟩ hlen
    refine yield_left (α := α) (B := z) (J := I) (Jx := Ix) (Kp := Kp) (xs := pre ++ [x]) hfn hl (hps x) (Nat.le_refl _)
      (hassign z pre x W _ hi ?_)
    intro a' Wa hka hpa hia hax
    have hla := hka.same z _ (Nat.le_refl _) hl rfl
    have hlt := (Array.getElem?_eq_some_iff.1 hla).1
    have hbusy : (Wa.putObj z (.loop (lrec fn a.tmps ps assign body r₀.defers .busy none))).heap[z]? = some (.loop (lrec fn a.tmps ps assign body r₀.defers .busy none)) := World.putObj_heap_same hlt
    have hp2 := hKt hpa (hKb Wa z _ (.loop (lrec fn a.tmps ps assign body r₀.defers .busy none)) rfl hla rfl)
    refine ⟨hka, hbody z pre x a' _ (Nat.le_refl _) ⟨_, hbusy⟩ (hI.put hia hla (Nat.le_refl _) rfl _) ((hAx x a').putObj (s := ()) _ hax (Nat.le_refl _) hla rfl) hlen, ?_⟩
    · intro W3 hk3 hp3 hl3
      have hlt3 := (Array.getElem?_eq_some_iff.1 hl3).1
      refine ⟨fun h => ⟨hKt (hKt hp2 hp3) (hKb _ _ _ _ rfl hl3 rfl), .inl ⟨rfl, hI.put h hl3 (Nat.le_refl _) rfl _, World.putObj_heap_same hlt3⟩⟩,
        fun c h => ⟨hKt (hKt hp2 hp3) (hKb _ _ _ _ rfl hl3 rfl), .inr ⟨rfl, c, (hIx c).put h hl3 (Nat.le_refl _) rfl _, World.putObj_heap_same hlt3⟩⟩⟩
  · rintro e W2 ⟨⟨v, rfl⟩, hen, (⟨xs, hS, hi, hl⟩ | ⟨pre, hSp, c, hi, hl⟩)⟩
    · exact ⟨none, _, run_endLoop hl (by simp [lrec]), hdone xs _ hS (hI.put hi hl (Nat.le_refl _) rfl _) (hEn _ _ _ _ rfl hl rfl hen)⟩
    · exact ⟨some c, _, run_endLoop hl (by simp [lrec]), hstop c pre _ hSp ((hIx c).put hi hl (Nat.le_refl _) rfl _) (hEn _ _ _ _ rfl hl rfl hen)⟩

/-- .. where what the assign code leaves is said by the frame ahead of it. -/
theorem wpIn_range_tm {α : Type} {g : Operand} {ps : Array Tmp} {assign body : Code} {Q : Exit → Act → World → Prop} {a : Act} {w : World}
    (hro : F.round = none) (h1 : 1 ≤ n) {gf : Nat} {lb : Array Value} (hg : a.eval g = .func (.func gf) #[] lb) (hFg : F.fn gf) (eg : ∀ args w, (callFunc gf args).run P w = .ok (.enter gf args) w)
    {encs : α → Array Value} {Rs : List Nat} {Kp : World → World → Prop} {S Sp : List α → Prop} {N : Nat} {Pre En : World → Prop} (hseq : Tells F (n - 1) P gf lb encs Rs Kp S Sp N Pre En)
    (hKt : ∀ {A B C : World}, Kp A B → Kp B C → Kp A C) (hKb : ∀ (W : World) (l : Nat) (o o' : Obj), l = w.heap.size + 1 → W.heap[l]? = some o → o.isCells = false → Kp W (W.putObj l o'))
    (hPre : ∀ W, Fr [] w W → W.heap.size = w.heap.size + 2 → Pre W) (hEn : ∀ (W : World) (l : Nat) (o o' : Obj), l = w.heap.size + 1 → W.heap[l]? = some o → o.isCells = false → En W → En (W.putObj l o'))
    (hRs : ∀ r, r ∈ Rs → r < w.heap.size) (hps : ∀ x, (encs x).size = ps.size)
    (I : List α → World → Prop) (Ix : Code → List α → World → Prop) (hI : Ab w.heap.size Rs I) (hIx : ∀ c, Ab w.heap.size Rs (Ix c)) (h0 : I [] w) (Ax : Array Value → α → Act → World → Prop) (hAx : ∀ x a', OwnFrom w.heap.size (fun (_ : Unit) W => Ax a.tmps x a' W))
    (hassign : ∀ (l : Nat) (pre : List α) (x : α) (W : World) (K : Act → World → Prop), I pre W → (∀ a' W', KeepsFrom w.heap.size W W' → Kp W W' → I pre W' → Ax a.tmps x a' W' → K a' W') →
      assign.wpIn (F.inRound l) (n - 1 - 1) P (Exit.then K (fun _ _ _ => False)) { tmps := (ps.zip (encs x)).foldl (fun t (p, v) => t.setIfInBounds p v) a.tmps, defers := [] } W)
    (hbody : ∀ (l : Nat) (pre : List α) (x : α) (a' : Act) (W : World), w.heap.size ≤ l → (∃ r, W.heap[l]? = some (.loop r)) → I pre W → Ax a.tmps x a' W → pre.length < N → body.wpIn (F.inRound l) (n - 1 - 1) P (leftBy w.heap.size Kp I Ix (pre ++ [x]) W) a' W)
    (hdone : ∀ (D : Nat) (xs : List α) (W : World), w.heap.size ≤ D → S xs → I xs W → En W → W.heap[D]? = some (.deferred (some [])) → Q .normal { a with defers := { target := .collected D, args := #[] } :: a.defers } W)
    (hstop : ∀ (D : Nat) (c : Code) (pre : List α) (W : World), w.heap.size ≤ D → Sp pre → Ix c pre W → En W → W.heap[D]? = some (.deferred (some [])) → c.wpIn F n P Q { a with defers := { target := .collected D, args := #[] } :: a.defers } W) :
    (Code.rangeFunc g ps assign body).wpIn F n P Q a w :=
  wpIn_range hro h1 hg hFg eg hseq hKt hKb hPre hEn hRs hps I Ix hI hIx h0 (Ax a.tmps) hAx hassign hbody hdone hstop

theorem wpIn_range_in_tm {α : Type} {g : Operand} {ps : Array Tmp} {assign body : Code} {Q : Exit → Act → World → Prop} {a : Act} {w : World}
    {l₀ : Nat} {r₀ : Loop} (hro : F.round = some l₀) (hr₀ : w.heap[l₀]? = some (.loop r₀)) (h1 : 1 ≤ n) {gf : Nat} {lb : Array Value} (hg : a.eval g = .func (.func gf) #[] lb) (hFg : F.fn gf) (eg : ∀ args w, (callFunc gf args).run P w = .ok (.enter gf args) w)
    {encs : α → Array Value} {Rs : List Nat} {Kp : World → World → Prop} {S Sp : List α → Prop} {N : Nat} {Pre En : World → Prop} (hseq : Tells F (n - 1) P gf lb encs Rs Kp S Sp N Pre En)
    (hKt : ∀ {A B C : World}, Kp A B → Kp B C → Kp A C) (hKb : ∀ (W : World) (l : Nat) (o o' : Obj), l = w.heap.size → W.heap[l]? = some o → o.isCells = false → Kp W (W.putObj l o'))
    (hPre : ∀ W, Fr [] w W → W.heap.size = w.heap.size + 1 → Pre W) (hEn : ∀ (W : World) (l : Nat) (o o' : Obj), l = w.heap.size → W.heap[l]? = some o → o.isCells = false → En W → En (W.putObj l o'))
    (hRs : ∀ r, r ∈ Rs → r < w.heap.size) (hps : ∀ x, (encs x).size = ps.size)
    (I : List α → World → Prop) (Ix : Code → List α → World → Prop) (hI : Ab w.heap.size Rs I) (hIx : ∀ c, Ab w.heap.size Rs (Ix c)) (h0 : I [] w) (Ax : Array Value → α → Act → World → Prop) (hAx : ∀ x a', OwnFrom w.heap.size (fun (_ : Unit) W => Ax a.tmps x a' W))
    (hassign : ∀ (l : Nat) (pre : List α) (x : α) (W : World) (K : Act → World → Prop), I pre W → (∀ a' W', KeepsFrom w.heap.size W W' → Kp W W' → I pre W' → Ax a.tmps x a' W' → K a' W') →
      assign.wpIn (F.inRound l) (n - 1 - 1) P (Exit.then K (fun _ _ _ => False)) { tmps := (ps.zip (encs x)).foldl (fun t (p, v) => t.setIfInBounds p v) a.tmps, defers := [] } W)
    (hbody : ∀ (l : Nat) (pre : List α) (x : α) (a' : Act) (W : World), w.heap.size ≤ l → (∃ r, W.heap[l]? = some (.loop r)) → I pre W → Ax a.tmps x a' W → pre.length < N → body.wpIn (F.inRound l) (n - 1 - 1) P (leftBy w.heap.size Kp I Ix (pre ++ [x]) W) a' W)
    (hdone : ∀ (xs : List α) (W : World), S xs → I xs W → En W → Q .normal a W)
    (hstop : ∀ (c : Code) (pre : List α) (W : World), Sp pre → Ix c pre W → En W → c.wpIn F n P Q a W) :
    (Code.rangeFunc g ps assign body).wpIn F n P Q a w :=
  wpIn_range_in hro hr₀ h1 hg hFg eg hseq hKt hKb hPre hEn hRs hps I Ix hI hIx h0 (Ax a.tmps) hAx hassign hbody hdone hstop

/-- A contract goes into a round as it is. -/
theorem Tells.inRound {α : Type} {F : Fence} {n : Nat} {P : Program} {g : Nat} {lb : Array Value} {encs : α → Array Value} {Rs : List Nat} {Kp : World → World → Prop} {S Sp : List α → Prop} {N : Nat} {Pre En : World → Prop} (l : Nat) (h : Tells F n P g lb encs Rs Kp S Sp N Pre En) :
    Tells (F.inRound l) n P g lb encs Rs Kp S Sp N Pre En := h
end
end Go.Proofs.YtiimmndhinoaiaaDoor
