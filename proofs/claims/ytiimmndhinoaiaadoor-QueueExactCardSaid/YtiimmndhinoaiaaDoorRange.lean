/-
  A range over a function whose iterator may also write blocks Rs of its own (captured variables).
-/
import Derived.Test.YtiimmndhinoaiaaDoorRead
import Derived.RangeFuncNested
import Derived.RangeFuncBound
import Derived.RangeFuncCalls
import Derived.RangeFuncLeaves
namespace Go.Proofs.YtiimmndhinoaiaaDoor
open Go.RowKit
set_option linter.unusedVariables false

/-- J abides what an iterator does between two rounds: new blocks, its own books (from B on), its own variables Rs. -/
def Ab {β : Type} (B : Nat) (Rs : List Nat) (J : β → World → Prop) : Prop :=
  ∀ s A A' row, J s A → A.grownBy A' row → (∀ r, row = some r → r ∈ Rs ∨ (B ≤ r ∧ ∃ o : Obj, A.heap[r]? = some o ∧ o.isCells = false)) → J s A'

section
variable {β : Type} {B : Nat} {Rs : List Nat} {J : β → World → Prop}
theorem Ab.from (h : Ab B Rs J) : OwnFrom B J := fun s A A' row hj hg hr => h s A A' row hj hg (fun r e => .inr (hr r e))
theorem Ab.up (h : Ab B Rs J) {B' : Nat} (hb : B ≤ B') : Ab B' Rs J := fun s A A' row hj hg hr => h s A A' row hj hg (fun r e => (hr r e).imp id (fun ⟨x, y⟩ => ⟨Nat.le_trans hb x, y⟩))
theorem Ab.fr (h : Ab B Rs J) {s : β} {A A' : World} (hj : J s A) (f : Fr [] A A') : J s A' :=
  h s A A' none hj ⟨f.os, f.tape, f.output, f.size, fun k hk _ => f.block k hk (by simp)⟩ (fun r e => by cases e)
theorem Ab.fr1 (h : Ab B Rs J) {s : β} {A A' : World} {b : Nat} (hj : J s A) (f : Fr [b] A A') (hb : b ∈ Rs) : J s A' :=
  h s A A' (some b) hj ⟨f.os, f.tape, f.output, f.size, fun k hk hn => f.block k hk (by simp at hn ⊢; exact hn)⟩ (fun r e => by cases e; exact .inl hb)
theorem Ab.put (h : Ab B Rs J) {s : β} {A : World} (hj : J s A) {l : Nat} {o : Obj} (hl : A.heap[l]? = some o) (hB : B ≤ l) (ho : o.isCells = false) (o' : Obj) : J s (A.putObj l o') :=
  h.from.putObj o' hj hB hl ho
theorem Ab.alloc (h : Ab B Rs J) {s : β} {A : World} (hj : J s A) (o : Obj) : J s (A.alloc o) := h.from.alloc o hj
end

/-- The contract of an iterator: it tells the rounds' values in their order, to the end (S) or till a round says no (Sp); Kp: what a round must keep; En: what is sure behind it. -/
def Tells {α : Type} (F : Fence) (n : Nat) (P : Program) (g : Nat) (lb : Array Value) (encs : α → Array Value) (Rs : List Nat) (Kp : World → World → Prop) (S Sp : List α → Prop) (N : Nat) (Pre En : World → Prop) : Prop :=
  ∀ (l : Nat) (J Jx : List α → World → Prop) (W : World), Pre W → Ab W.heap.size Rs J → Ab W.heap.size Rs Jx →
    (∀ pre x W1, J pre W1 → pre.length < N → YieldAt F (n - 1) P l (encs x) W1 fun e W' =>
      Kp W1 W' ∧ ((e = .returned (.bool true) ∧ J (pre ++ [x]) W') ∨ (e = .returned (.bool false) ∧ Jx (pre ++ [x]) W'))) →
    J [] W →
    CallsIn F n P g (#[.func (.yield l) #[] #[]] ++ lb) W fun e W' => (∃ v, e = .returned v) ∧ En W' ∧ ((∃ xs, S xs ∧ J xs W') ∨ (∃ pre, Sp pre ∧ Jx pre W'))

/-- Blocks of these types lie as they lay. -/
def KeepsTy (ts : List TypeId) (W W' : World) : Prop := ∀ k c e, e ∈ ts → Blk W k c e → Blk W' k c e
theorem KeepsTy.refl (ts : List TypeId) (W : World) : KeepsTy ts W W := fun _ _ _ _ h => h
theorem KeepsTy.trans {ts : List TypeId} {A B C : World} (h : KeepsTy ts A B) (k : KeepsTy ts B C) : KeepsTy ts A C := fun i c e he hb => k i c e he (h i c e he hb)
theorem KeepsTy.put {ts : List TypeId} {W : World} {l : Nat} {o : Obj} (o' : Obj) (hl : W.heap[l]? = some o) (ho : o.isCells = false) : KeepsTy ts W (W.putObj l o') := fun k c e _ hb => by
  have hne : l ≠ k := by
    rintro rfl
    rw [show W.heap[l]? = _ from hb] at hl
    cases hl
    cases ho
  exact (World.putObj_heap_other (Ne.symm hne)).trans hb
theorem KeepsTy.of_fr {ts : List TypeId} {S : List Nat} {W W' : World} (h : Fr S W W') (hs : ∀ k, k ∈ S → ∃ c e, Blk W k c e ∧ e ∉ ts) : KeepsTy ts W W' := fun k c e he hb =>
  h.blk hb (fun hm => by obtain ⟨c', e', h1, h2⟩ := hs k hm; exact h2 ((hb.inj h1).2 ▸ he))
theorem kf_of_fr {S : List Nat} {W W' : World} (B : Nat) (h : Fr S W W') (hs : ∀ k, k ∈ S → ∃ c e, Blk W k c e) : KeepsFrom B W W' :=
  ⟨h.size, fun k o _ hk ho => by
    have hk' : k ∉ S := fun hm => by obtain ⟨c, e, hb⟩ := hs k hm; rw [show W.heap[k]? = _ from hb] at hk; cases hk; cases ho
    exact (h.block k (Array.getElem?_eq_some_iff.1 hk).1 hk').trans hk⟩
/-- What a round keeps: blocks of these types; the books from B on. -/
def Kps (ts : List TypeId) (B : Nat) (W W' : World) : Prop := KeepsTy ts W W' ∧ KeepsFrom B W W'
theorem Kps.trans {ts : List TypeId} {D : Nat} {A B C : World} (h : Kps ts D A B) (k : Kps ts D B C) : Kps ts D A C := ⟨h.1.trans k.1, h.2.trans k.2⟩
theorem Kps.put {ts : List TypeId} {W : World} {B l : Nat} {o : Obj} (o' : Obj) (hl : W.heap[l]? = some o) (ho : o.isCells = false) (hB : l < B) : Kps ts B W (W.putObj l o') :=
  ⟨KeepsTy.put o' hl ho, by simp [World.putObj], fun k o hk h _ => (World.putObj_heap_other (by omega)).trans h⟩
theorem Kps.of_fr {ts : List TypeId} {S : List Nat} {W W' : World} (B : Nat) (h : Fr S W W') (hs : ∀ k, k ∈ S → ∃ c e, Blk W k c e ∧ e ∉ ts) : Kps ts B W W' :=
  ⟨KeepsTy.of_fr h hs, kf_of_fr B h (fun k hk => by obtain ⟨c, e, h1, _⟩ := hs k hk; exact ⟨c, e, h1⟩)⟩
theorem own_blk {w : World} {e : TypeId} {size k : Nat} {v : Value} {xs : List Value} (h : w.ownsRow 0 e size v k xs) : ∀ g, g ∈ v.ownBlock.toList → ∃ c, Blk w g c e := by
  intro g hg
  rcases h.2 with ⟨rfl, _⟩ | ⟨g', cap, cur, rfl, _, hgb, _⟩
  · simp [Value.ownBlock] at hg
  · simp [Value.ownBlock] at hg; subst hg; exact ⟨_, hgb⟩
theorem Blk.putObj {w : World} {b l : Nat} {c : Array Value} {e : TypeId} (h : Blk w b c e) {o : Obj} (hl : w.heap[l]? = some o) (ho : o.isCells = false) (o' : Obj) : Blk (w.putObj l o') b c e :=
  (KeepsTy.put (ts := [e]) o' hl ho) b c e (by simp) h
theorem Fr.putObj {S : List Nat} {a w : World} (h : Fr S a w) (l : Nat) (o : Obj) (hl : a.heap.size ≤ l) : Fr S a (w.putObj l o) :=
  h.trans (T := [l]) ⟨rfl, rfl, rfl, by simp [World.putObj], fun k hk hn => World.putObj_heap_other (by simpa using hn)⟩ (by simp; exact .inr hl)
theorem own_putObj {w : World} {e : TypeId} {size k l : Nat} {v : Value} {xs : List Value} (h : w.ownsRow 0 e size v k xs) {o : Obj} (hl : w.heap[l]? = some o) (ho : o.isCells = false) (o' : Obj) : (w.putObj l o').ownsRow 0 e size v k xs := by
  refine own_fr (S := [l]) h ⟨rfl, rfl, rfl, by simp [World.putObj], fun k hk hn => World.putObj_heap_other (by simpa using hn)⟩ (fun g hg => ?_)
  obtain ⟨c, hb⟩ := own_blk h g (by simp [hg])
  simp only [List.mem_singleton]
  rintro rfl
  rw [show w.heap[g]? = _ from hb] at hl
  cases hl
  cases ho

/-- The cells of a new block. -/
theorem new_list (w : World) (l : List Value) (e : TypeId) (k : Nat) (hk : k = w.heap.size) : ∀ j x, l[j]? = some x → (w.alloc (.cells l.toArray e)).cell? ((⟨k, 0, none⟩ : Addr).add j) = some x := by
  subst hk
  intro j x hj
  rw [Addr.add_lit, Nat.zero_add]
  exact (Blk.new w l.toArray e).at j (by simpa using hj)

/-! ### what lies behind an iterator's own steps -/
section
variable {A B : World} {row : Option Nat} {Rs : List Nat} {n : Nat}
theorem blk_ab (hg : A.grownBy B row) (hr : ∀ r, row = some r → r ∈ Rs ∨ (n ≤ r ∧ ∃ o : Obj, A.heap[r]? = some o ∧ o.isCells = false)) {b : Nat} {c : Array Value} {e : TypeId} (h : Blk A b c e) (hb : b ∉ Rs) : Blk B b c e := by
  refine (hg.block b h.lt fun e' => ?_).trans h
  rcases hr b e'.symm with h1 | ⟨_, o, ho, hc⟩
  · exact hb h1
  · rw [show A.heap[b]? = _ from h] at ho; cases ho; cases hc
theorem own_ab (hg : A.grownBy B row) (hr : ∀ r, row = some r → r ∈ Rs ∨ (n ≤ r ∧ ∃ o : Obj, A.heap[r]? = some o ∧ o.isCells = false)) {e : TypeId} {size k : Nat} {v : Value} {xs : List Value} (h : A.ownsRow 0 e size v k xs) (hb : ∀ g, v.ownBlock = some g → g ∉ Rs) : B.ownsRow 0 e size v k xs := by
  refine h.kept hg ?_
  rcases h.2 with ⟨rfl, _⟩ | ⟨g, cap, cur, rfl, _, hgb, _⟩
  · exact .inl rfl
  · refine .inr fun e' => ?_
    rcases hr g (by simpa [Value.ownBlock] using e'.symm) with h1 | ⟨_, o, ho, hc⟩
    · exact hb g (by simp [Value.ownBlock]) h1
    · rw [hgb] at ho; cases ho; cases hc
theorem fr_ab {w : World} {S : List Nat} (hg : A.grownBy B row) (hr : ∀ r, row = some r → r ∈ Rs ∨ (n ≤ r ∧ ∃ o : Obj, A.heap[r]? = some o ∧ o.isCells = false)) (hn : w.heap.size ≤ n) (h : Fr S w A) (hs : ∀ r, r ∈ Rs → r ∈ S ∨ w.heap.size ≤ r) : Fr S w B :=
  h.grown hg fun k hk => by
    rcases hr k hk with h1 | ⟨h1, _⟩
    · exact hs k h1
    · exact .inr (Nat.le_trans hn h1)
end

/-- How a round may be left. -/
def leftBy {α : Type} (B : Nat) (Kp : World → World → Prop) (I : List α → World → Prop) (Ix : Code → List α → World → Prop) (xs : List α) (W : World) : Exit → Act → World → Prop
  | .normal, _, W' => KeepsFrom B W W' ∧ Kp W W' ∧ I xs W'
  | .ret, _, W' => KeepsFrom B W W' ∧ Kp W W' ∧ Ix .ret xs W'
  | .exit id, _, W' => KeepsFrom B W W' ∧ Kp W W' ∧ Ix (.exit id) xs W'
  | .goto t, _, W' => KeepsFrom B W W' ∧ Kp W W' ∧ Ix (.goto t) xs W'
  | .panic _, _, _ => False
  | .outgrown, _, _ => False

/-- The record of a loop. -/
def lrec (fn : FuncId) (tmps : Array Value) (ps : Array Tmp) (assign body : Code) (D : Nat) (st : LoopState) (pe : Option Code) : Loop :=
  { state := st, pending := pe, fn, tmps, params := ps, assign, body, defers := D }

section
variable {F : Fence} {n : Nat} {P : Program}

/-- The books at a round's end. -/
theorem round_end {fn : FuncId} {tmps : Array Value} {ps : Array Tmp} {assign body : Code} {D L : Nat} {W : World} (h : W.heap[L]? = some (.loop (lrec fn tmps ps assign body D .busy none))) (jump : Option Code) :
    (Instr.endRound L jump).run P W = .ok (.bool jump.isNone) (W.putObj L (.loop (lrec fn tmps ps assign body D (if jump.isNone then .ready else .done) jump))) :=
  run_endRound jump h

/-- One round, as yield meets it. -/
theorem yield_left {α : Type} {fn : FuncId} {tmps : Array Value} {ps : Array Tmp} {assign body : Code} {D L B : Nat} {W : World} {args : Array Value} {R : Ending → World → Prop} {J : List α → World → Prop} {Jx : Code → List α → World → Prop} {Kp : World → World → Prop} {xs : List α}
    (hfn : F.fn fn) (hl : W.heap[L]? = some (.loop (lrec fn tmps ps assign body D .ready none))) (hs : args.size = ps.size) (hB : B ≤ L)
    (hround : assign.wpIn (F.inRound L) n P (Exit.then (fun a' Wa => KeepsFrom B W Wa ∧
        body.wpIn (F.inRound L) n P (leftBy B Kp J Jx xs (Wa.putObj L (.loop (lrec fn tmps ps assign body D .busy none)))) a' (Wa.putObj L (.loop (lrec fn tmps ps assign body D .busy none))) ∧
        (∀ W3, KeepsFrom B (Wa.putObj L (.loop (lrec fn tmps ps assign body D .busy none))) W3 → Kp (Wa.putObj L (.loop (lrec fn tmps ps assign body D .busy none))) W3 → W3.heap[L]? = some (.loop (lrec fn tmps ps assign body D .busy none)) →
          (J xs W3 → R (.returned (.bool true)) (W3.putObj L (.loop (lrec fn tmps ps assign body D .ready none)))) ∧
          (∀ c, Jx c xs W3 → R (.returned (.bool false)) (W3.putObj L (.loop (lrec fn tmps ps assign body D .done (some c))))))) (fun _ _ _ => False))
      { tmps := (ps.zip args).foldl (fun t (p, v) => t.setIfInBounds p v) tmps, defers := [] } W) :
    YieldAt F n P L args W R := by
  refine ⟨fn, _, assign, body, run_yield hl (by simpa [lrec] using hs), roundIn_of_wpIn hfn (wpIn_mono hround ?_)⟩
  intro e a' Wa h
  cases e with
  | normal =>
    obtain ⟨hk, hb, hR⟩ := h
    have hla := hk.same L _ hB hl rfl
    have hlt := (Array.getElem?_eq_some_iff.1 hla).1
    refine ⟨_, run_beginRound hla rfl, wpIn_mono hb ?_⟩
    have hbusy : (Wa.putObj L (.loop (lrec fn tmps ps assign body D .busy none))).heap[L]? = some (.loop (lrec fn tmps ps assign body D .busy none)) := World.putObj_heap_same hlt
    intro e a3 W3 hp
    cases e with
    | normal =>
      have h3 := hp.1.same L _ hB hbusy rfl
      exact ⟨_, _, round_end h3 none, (hR W3 hp.1 hp.2.1 h3).1 hp.2.2⟩
    | ret =>
      have h3 := hp.1.same L _ hB hbusy rfl
      exact ⟨_, _, round_end h3 (some .ret), (hR W3 hp.1 hp.2.1 h3).2 _ hp.2.2⟩
    | exit id =>
      have h3 := hp.1.same L _ hB hbusy rfl
      exact ⟨_, _, round_end h3 (some (.exit id)), (hR W3 hp.1 hp.2.1 h3).2 _ hp.2.2⟩
    | goto t =>
      have h3 := hp.1.same L _ hB hbusy rfl
      exact ⟨_, _, round_end h3 (some (.goto t)), (hR W3 hp.1 hp.2.1 h3).2 _ hp.2.2⟩
    | panic c => exact hp.elim
    | outgrown => exact hp.elim
  | ret => exact h.elim
  | exit id => exact h.elim
  | goto t => exact h.elim
  | panic c => exact h.elim
  | outgrown => exact h.elim

/-- **The range over a function.** -/
theorem wpIn_range {α : Type} {g : Operand} {ps : Array Tmp} {assign body : Code} {Q : Exit → Act → World → Prop} {a : Act} {w : World}
    (hro : F.round = none) (h1 : 1 ≤ n) {gf : Nat} {lb : Array Value} (hg : a.eval g = .func (.func gf) #[] lb) (hFg : F.fn gf) (eg : ∀ args w, (callFunc gf args).run P w = .ok (.enter gf args) w)
    {encs : α → Array Value} {Rs : List Nat} {Kp : World → World → Prop} {S Sp : List α → Prop} {N : Nat} {Pre En : World → Prop} (hseq : Tells F (n - 1) P gf lb encs Rs Kp S Sp N Pre En)
    (hKt : ∀ {A B C : World}, Kp A B → Kp B C → Kp A C) (hKb : ∀ (W : World) (l : Nat) (o o' : Obj), l = w.heap.size + 1 → W.heap[l]? = some o → o.isCells = false → Kp W (W.putObj l o'))
    (hPre : ∀ W, Fr [] w W → W.heap.size = w.heap.size + 2 → Pre W) (hEn : ∀ (W : World) (l : Nat) (o o' : Obj), l = w.heap.size + 1 → W.heap[l]? = some o → o.isCells = false → En W → En (W.putObj l o'))
    (hRs : ∀ r, r ∈ Rs → r < w.heap.size) (hps : ∀ x, (encs x).size = ps.size)
    (I : List α → World → Prop) (Ix : Code → List α → World → Prop) (hI : Ab w.heap.size Rs I) (hIx : ∀ c, Ab w.heap.size Rs (Ix c)) (h0 : I [] w) (Ax : α → Act → World → Prop) (hAx : ∀ x a', OwnFrom w.heap.size (fun (_ : Unit) W => Ax x a' W))
    (hassign : ∀ (l : Nat) (pre : List α) (x : α) (W : World) (K : Act → World → Prop), I pre W → (∀ a' W', KeepsFrom w.heap.size W W' → Kp W W' → I pre W' → Ax x a' W' → K a' W') →
      assign.wpIn (F.inRound l) (n - 1 - 1) P (Exit.then K (fun _ _ _ => False)) { tmps := (ps.zip (encs x)).foldl (fun t (p, v) => t.setIfInBounds p v) a.tmps, defers := [] } W)
    (hbody : ∀ (l : Nat) (pre : List α) (x : α) (a' : Act) (W : World), w.heap.size ≤ l → (∃ r, W.heap[l]? = some (.loop r)) → I pre W → Ax x a' W → pre.length < N → body.wpIn (F.inRound l) (n - 1 - 1) P (leftBy w.heap.size Kp I Ix (pre ++ [x]) W) a' W)
    (hdone : ∀ (D : Nat) (xs : List α) (W : World), w.heap.size ≤ D → S xs → I xs W → En W → W.heap[D]? = some (.deferred (some [])) → Q .normal { a with defers := { target := .collected D, args := #[] } :: a.defers } W)
    (hstop : ∀ (D : Nat) (c : Code) (pre : List α) (W : World), w.heap.size ≤ D → Sp pre → Ix c pre W → En W → W.heap[D]? = some (.deferred (some [])) → c.wpIn F n P Q { a with defers := { target := .collected D, args := #[] } :: a.defers } W) :
    (Code.rangeFunc g ps assign body).wpIn F n P Q a w := by
  refine wpIn_rangeFunc fun fn hfn => ?_
  rw [hro]
  obtain ⟨z, hz⟩ : ∃ z, z = w.heap.size := ⟨_, rfl⟩
  obtain ⟨W1, hW1⟩ : ∃ W1, (w.alloc (.deferred (some []))).alloc (.loop (lrec fn a.tmps ps assign body w.heap.size .ready none)) = W1 := ⟨_, rfl⟩
  have hL1 : W1.heap[z + 1]? = some (.loop (lrec fn a.tmps ps assign body z .ready none)) := by
    rw [← hW1, hz]
    simpa using World.alloc_heap_new (w.alloc (.deferred (some []))) (.loop (lrec fn a.tmps ps assign body w.heap.size .ready none))
  have hD1 : W1.heap[z]? = some (.deferred (some [])) := by
    rw [← hW1, hz]
    exact (Below.heap_alloc _ _ _ (by simp)).trans (World.alloc_heap_new w _)
  have hsz : W1.heap.size = z + 2 := by rw [← hW1, hz]; simp
  have hI1 : I [] W1 := by rw [← hW1]; exact hI.alloc (hI.alloc h0 _) _
  have hF1 : Fr [] w W1 := by rw [← hW1]; exact ((Fr.refl [] w).alloc _).alloc _
  refine ⟨z + 1, [{ target := .collected z, args := #[] }], W1, { target := .fn (.func gf) lb, args := #[.func (.yield (z + 1)) #[] #[]] }, W1, gf, #[.func (.yield (z + 1)) #[] #[]] ++ lb, W1, ?_, ?_, ?_, ?_, fun _ => h1, ?_⟩
  · rw [← hW1, hz]; exact run_enterLoop_outer _ _ _ _ _
  · simp only [resolve, hg]
    simp [go_sem]
  · intro f' hf'; simp [Target.leads] at hf'; subst hf'; exact hFg
  · simp [invoke, go_sem, eg]
  rw [← hz] at hKb hEn hRs hI hIx hAx hassign hbody hdone hstop
  have hout : ∀ {A A' : World} {row : Option Nat} {k : Nat}, (k = z ∨ k = z + 1) → A.grownBy A' row → (∀ r, row = some r → r ∈ Rs ∨ (W1.heap.size ≤ r ∧ ∃ o : Obj, A.heap[r]? = some o ∧ o.isCells = false)) → ∀ {o : Obj}, A.heap[k]? = some o → A'.heap[k]? = some o := by
    intro A A' row k hk hg hr o ho
    refine (hg.block k (Array.getElem?_eq_some_iff.1 ho).1 (fun e => ?_)).trans ho
    rcases hr k e.symm with h | h
    · have := hRs k h; omega
    · omega
  have habs : ∀ {A : World} {row : Option Nat}, (∀ r, row = some r → r ∈ Rs ∨ (W1.heap.size ≤ r ∧ ∃ o : Obj, A.heap[r]? = some o ∧ o.isCells = false)) → (∀ r, row = some r → r ∈ Rs ∨ (z ≤ r ∧ ∃ o : Obj, A.heap[r]? = some o ∧ o.isCells = false)) :=
    fun hr r e => (hr r e).imp id (fun h => ⟨by omega, h.2⟩)
  refine (hseq (z + 1)
    (fun pre W => I pre W ∧ W.heap[z + 1]? = some (.loop (lrec fn a.tmps ps assign body z .ready none)) ∧ W.heap[z]? = some (.deferred (some [])))
    (fun pre W => ∃ c, Ix c pre W ∧ W.heap[z + 1]? = some (.loop (lrec fn a.tmps ps assign body z .done (some c))) ∧ W.heap[z]? = some (.deferred (some [])))
    W1 (hPre _ hF1 (by omega))
    (fun s A A' row h hg hr => ⟨hI s A A' row h.1 hg (habs hr), hout (.inr rfl) hg hr h.2.1, hout (.inl rfl) hg hr h.2.2⟩)
    (fun s A A' row h hg hr => by
      obtain ⟨c, hc, hl, hd⟩ := h
      exact ⟨c, hIx c s A A' row hc hg (habs hr), hout (.inr rfl) hg hr hl, hout (.inl rfl) hg hr hd⟩)
    ?_ ⟨hI1, hL1, hD1⟩).mono ?_
  · rintro pre x W ⟨hi, hl, hd⟩ hlen
    refine yield_left (α := α) (B := z) (J := I) (Jx := Ix) (Kp := Kp) (xs := pre ++ [x]) hfn hl (hps x) (by omega)
      (hassign (z + 1) pre x W _ hi ?_)
    intro a' Wa hka hpa hia hax
    have hla := hka.same (z + 1) _ (by omega) hl rfl
    have hda := hka.same z _ (Nat.le_refl _) hd rfl
    have hlt := (Array.getElem?_eq_some_iff.1 hla).1
    have hbusy : (Wa.putObj (z + 1) (.loop (lrec fn a.tmps ps assign body z .busy none))).heap[z + 1]? = some (.loop (lrec fn a.tmps ps assign body z .busy none)) := World.putObj_heap_same hlt
    have hd2 : (Wa.putObj (z + 1) (.loop (lrec fn a.tmps ps assign body z .busy none))).heap[z]? = some (.deferred (some [])) := (World.putObj_heap_other (by omega)).trans hda
    have hp2 := hKt hpa (hKb Wa (z + 1) _ (.loop (lrec fn a.tmps ps assign body z .busy none)) (by omega) hla rfl)
    have hfin : ∀ W3 (o' : Obj), KeepsFrom z (Wa.putObj (z + 1) (.loop (lrec fn a.tmps ps assign body z .busy none))) W3 → (W3.putObj (z + 1) o').heap[z]? = some (.deferred (some [])) := fun W3 o' hk3 =>
      (World.putObj_heap_other (by omega)).trans (hk3.same z _ (Nat.le_refl _) hd2 rfl)
    refine ⟨hka, hbody (z + 1) pre x a' _ (by omega) ⟨_, hbusy⟩ (hI.put hia hla (by omega) rfl _) ((hAx x a').putObj (s := ()) _ hax (by omega) hla rfl) hlen, ?_⟩
    · intro W3 hk3 hp3 hl3
      have hlt3 := (Array.getElem?_eq_some_iff.1 hl3).1
      refine ⟨fun h => ⟨hKt (hKt hp2 hp3) (hKb _ _ _ _ (by omega) hl3 rfl), .inl ⟨rfl, hI.put h hl3 (by omega) rfl _, World.putObj_heap_same hlt3, hfin _ _ hk3⟩⟩,
        fun c h => ⟨hKt (hKt hp2 hp3) (hKb _ _ _ _ (by omega) hl3 rfl), .inr ⟨rfl, c, (hIx c).put h hl3 (by omega) rfl _, World.putObj_heap_same hlt3, hfin _ _ hk3⟩⟩⟩
  · rintro e W2 ⟨⟨v, rfl⟩, hen, (⟨xs, hS, hi, hl, hd⟩ | ⟨pre, hSp, c, hi, hl, hd⟩)⟩
    · exact ⟨none, _, run_endLoop hl (by simp [lrec]), hdone z xs _ (Nat.le_refl _) hS (hI.put hi hl (by omega) rfl _) (hEn _ _ _ _ (by omega) hl rfl hen) ((World.putObj_heap_other (by omega)).trans hd)⟩
    · exact ⟨some c, _, run_endLoop hl (by simp [lrec]), hstop z c pre _ (Nat.le_refl _) hSp ((hIx c).put hi hl (by omega) rfl _) (hEn _ _ _ _ (by omega) hl rfl hen) ((World.putObj_heap_other (by omega)).trans hd)⟩
end
end Go.Proofs.YtiimmndhinoaiaaDoor
