/-
  Tb, part 28 of 36: the texts RangeO KeA KeB.
-/
import Derived.Test.YtgoolkgjcmdilaaDoorTb15
import Derived.Test.YtgoolkgjcmdilaaDoorTb17
import Derived.Test.YtgoolkgjcmdilaaDoorTb27
section
namespace Go.Proofs.YtgoolkgjcmdilaaDoor
open Go.RowKit
set_option linter.unusedVariables false
/-- .. Ok: what is sure of the value that a round is handed (n0: where new memory begins). -/
def TellsO {α : Type} (F : Fence) (n : Nat) (P : Program) (g : Nat) (lb : Array Value) (encs : α → Array Value) (Rs : List Nat) (Kp : World → World → Prop) (S Sp : List α → Prop) (N : Nat) (Pre En : World → Prop) (Ok : Nat → List α → α → World → Prop) : Prop :=
  ∀ (l : Nat) (J Jx : List α → World → Prop) (W : World), Pre W → Ab W.heap.size Rs J → Ab W.heap.size Rs Jx →
    (∀ pre x W1, J pre W1 → Ok W.heap.size pre x W1 → pre.length < N → YieldAt F (n - 1) P l (encs x) W1 fun e W' =>
      Kp W1 W' ∧ ((e = .returned (.bool true) ∧ J (pre ++ [x]) W') ∨ (e = .returned (.bool false) ∧ Jx (pre ++ [x]) W'))) →
    J [] W →
    CallsIn F n P g (#[.func (.yield l) #[] #[]] ++ lb) W fun e W' => (∃ v, e = .returned v) ∧ En W' ∧ ((∃ xs, S xs ∧ J xs W') ∨ (∃ pre, Sp pre ∧ Jx pre W'))
section
variable {F : Fence} {n : Nat} {P : Program}
/-- **The range over a function.** -/
theorem wpIn_rangeO {α : Type} {g : Operand} {ps : Array Tmp} {assign body : Code} {Q : Exit → Act → World → Prop} {a : Act} {w : World}
    (hro : F.round = none) (h1 : 1 ≤ n) {gf : Nat} {lb : Array Value} (hg : a.eval g = .func (.func gf) #[] lb) (hFg : F.fn gf) (eg : ∀ args w, (callFunc gf args).run P w = .ok (.enter gf args) w)
    {encs : α → Array Value} {Rs : List Nat} {Kp : World → World → Prop} {S Sp : List α → Prop} {N : Nat} {Pre En : World → Prop} {Ok : Nat → List α → α → World → Prop} (hseq : TellsO F (n - 1) P gf lb encs Rs Kp S Sp N Pre En Ok)
    (hKt : ∀ {A B C : World}, Kp A B → Kp B C → Kp A C) (hKb : ∀ (W : World) (l : Nat) (o o' : Obj), l = w.heap.size + 1 → W.heap[l]? = some o → o.isCells = false → Kp W (W.putObj l o'))
    (hPre : ∀ W, Fr [] w W → W.heap.size = w.heap.size + 2 → Pre W) (hEn : ∀ (W : World) (l : Nat) (o o' : Obj), l = w.heap.size + 1 → W.heap[l]? = some o → o.isCells = false → En W → En (W.putObj l o'))
    (hRs : ∀ r, r ∈ Rs → r < w.heap.size) (hps : ∀ x, (encs x).size = ps.size)
    (I : List α → World → Prop) (Ix : Code → List α → World → Prop) (hI : Ab w.heap.size Rs I) (hIx : ∀ c, Ab w.heap.size Rs (Ix c)) (h0 : I [] w) (Ax : α → Act → World → Prop) (hAx : ∀ x a', OwnFrom w.heap.size (fun (_ : Unit) W => Ax x a' W))
    (hassign : ∀ (l : Nat) (pre : List α) (x : α) (W : World) (K : Act → World → Prop), I pre W → Ok (w.heap.size + 2) pre x W → (∀ a' W', KeepsFrom w.heap.size W W' → Kp W W' → I pre W' → Ax x a' W' → K a' W') →
      assign.wpIn (F.inRound l) (n - 1 - 1) P (Exit.then K (fun _ _ _ => False)) { tmps := (ps.zip (encs x)).foldl (fun t (p, v) => t.setIfInBounds p v) a.tmps, defers := [] } W)
    (hbody : ∀ (l : Nat) (pre : List α) (x : α) (a' : Act) (W : World), w.heap.size ≤ l → (∃ r, W.heap[l]? = some (.loop r)) → I pre W → Ax x a' W → pre.length < N → body.wpIn (F.inRound l) (n - 1 - 1) P (leftBy w.heap.size Kp I Ix (pre ++ [x]) W) a' W)
    (hdone : ∀ (D : Nat) (xs : List α) (W : World), w.heap.size ≤ D → S xs → I xs W → En W → W.heap[D]? = some (.deferred (some [])) → Q .normal { a with defers := { target := .collected D, args := #[] } :: a.defers } W)
    (hstop : ∀ (D : Nat) (c : Code) (pre : List α) (W : World), w.heap.size ≤ D → Sp pre → Ix c pre W → En W → W.heap[D]? = some (.deferred (some [])) → c.wpIn F n P Q { a with defers := { target := .collected D, args := #[] } :: a.defers } W) :
    (Code.rangeFunc g ps assign body).wpIn F n P Q a w := by
  refine wpIn_rangeFunc fun fn hfn => ?_
  rw [hro]
  obtain ⟨z, hz⟩ : ∃ z, z = w.heap.size := ⟨_, rfl⟩
  obtain ⟨W1, hW1⟩ : ∃ W1, (w.alloc (.deferred (some []))).alloc (.loop (lrec fn a.tmps ps assign body w.heap.size .ready none)) = W1 := ⟨_, rfl⟩
  have hL1 : W1.heap[z + 1]? = some (.loop (lrec fn a.tmps ps assign body z .ready none)) := by
    rw [← hW1, hz]
    simpa using World.alloc_heap_new (w.alloc (.deferred (some []))) (.loop (lrec fn a.tmps ps assign body w.heap.size .ready none))
  have hD1 : W1.heap[z]? = some (.deferred (some [])) := by
    rw [← hW1, hz]
    exact (Below.heap_alloc _ _ _ (by simp)).trans (World.alloc_heap_new w _)
  have hsz : W1.heap.size = z + 2 := by rw [← hW1, hz]; simp
  have hI1 : I [] W1 := by rw [← hW1]; exact hI.alloc (hI.alloc h0 _) _
  have hF1 : Fr [] w W1 := by rw [← hW1]; exact ((Fr.refl [] w).alloc _).alloc _
  refine ⟨z + 1, [{ target := .collected z, args := #[] }], W1, { target := .fn (.func gf) lb, args := #[.func (.yield (z + 1)) #[] #[]] }, W1, gf, #[.func (.yield (z + 1)) #[] #[]] ++ lb, W1, ?_, ?_, ?_, ?_, fun _ => h1, ?_⟩
  · rw [← hW1, hz]; exact run_enterLoop_outer _ _ _ _ _
  · simp only [resolve, hg]
    simp [go_sem]
  · intro f' hf'; simp [Target.leads] at hf'; subst hf'; exact hFg
  · simp [invoke, go_sem, eg]
  rw [← hz] at hKb hEn hRs hI hIx hAx hassign hbody hdone hstop
  have hout : ∀ {A A' : World} {row : Option Nat} {k : Nat}, (k = z ∨ k = z + 1) → A.grownBy A' row → (∀ r, row = some r → r ∈ Rs ∨ (W1.heap.size ≤ r ∧ ∃ o : Obj, A.heap[r]? = some o ∧ o.isCells = false)) → ∀ {o : Obj}, A.heap[k]? = some o → A'.heap[k]? = some o := by
    intro A A' row k hk hg hr o ho
    refine (hg.block k (Array.getElem?_eq_some_iff.1 ho).1 (fun e => ?_)).trans ho
    rcases hr k e.symm with h | h
    · have := hRs k h; omega
    · omega
  have habs : ∀ {A : World} {row : Option Nat}, (∀ r, row = some r → r ∈ Rs ∨ (W1.heap.size ≤ r ∧ ∃ o : Obj, A.heap[r]? = some o ∧ o.isCells = false)) → (∀ r, row = some r → r ∈ Rs ∨ (z ≤ r ∧ ∃ o : Obj, A.heap[r]? = some o ∧ o.isCells = false)) :=
    fun hr r e => (hr r e).imp id (fun h => ⟨by omega, h.2⟩)
  refine (hseq (z + 1)
    (fun pre W => I pre W ∧ W.heap[z + 1]? = some (.loop (lrec fn a.tmps ps assign body z .ready none)) ∧ W.heap[z]? = some (.deferred (some [])))
    (fun pre W => ∃ c, Ix c pre W ∧ W.heap[z + 1]? = some (.loop (lrec fn a.tmps ps assign body z .done (some c))) ∧ W.heap[z]? = some (.deferred (some [])))
    W1 (hPre _ hF1 (by omega))
    (fun s A A' row h hg hr => ⟨hI s A A' row h.1 hg (habs hr), hout (.inr rfl) hg hr h.2.1, hout (.inl rfl) hg hr h.2.2⟩)
    (fun s A A' row h hg hr => by
      obtain ⟨c, hc, hl, hd⟩ := h
      exact ⟨c, hIx c s A A' row hc hg (habs hr), hout (.inr rfl) hg hr hl, hout (.inl rfl) hg hr hd⟩)
    ?_ ⟨hI1, hL1, hD1⟩).mono ?_
  · rintro pre x W ⟨hi, hl, hd⟩ hok hlen
    rw [hsz] at hok
    refine yield_left (α := α) (B := z) (J := I) (Jx := Ix) (Kp := Kp) (xs := pre ++ [x]) hfn hl (hps x) (by omega)
      (hassign (z + 1) pre x W _ hi hok ?_)
    intro a' Wa hka hpa hia hax
    have hla := hka.same (z + 1) _ (by omega) hl rfl
    have hda := hka.same z _ (Nat.le_refl _) hd rfl
    have hlt := (Array.getElem?_eq_some_iff.1 hla).1
    have hbusy : (Wa.putObj (z + 1) (.loop (lrec fn a.tmps ps assign body z .busy none))).heap[z + 1]? = some (.loop (lrec fn a.tmps ps assign body z .busy none)) := World.putObj_heap_same hlt
    have hd2 : (Wa.putObj (z + 1) (.loop (lrec fn a.tmps ps assign body z .busy none))).heap[z]? = some (.deferred (some [])) := (World.putObj_heap_other (by omega)).trans hda
    have hp2 := hKt hpa (hKb Wa (z + 1) _ (.loop (lrec fn a.tmps ps assign body z .busy none)) (by omega) hla rfl)
    have hfin : ∀ W3 (o' : Obj), KeepsFrom z (Wa.putObj (z + 1) (.loop (lrec fn a.tmps ps assign body z .busy none))) W3 → (W3.putObj (z + 1) o').heap[z]? = some (.deferred (some [])) := fun W3 o' hk3 =>
      (World.putObj_heap_other (by omega)).trans (hk3.same z _ (Nat.le_refl _) hd2 rfl)
    refine ⟨hka, hbody (z + 1) pre x a' _ (by omega) ⟨_, hbusy⟩ (hI.put hia hla (by omega) rfl _) ((hAx x a').putObj (s := ()) _ hax (by omega) hla rfl) hlen, ?_⟩
    · intro W3 hk3 hp3 hl3
      have hlt3 := (Array.getElem?_eq_some_iff.1 hl3).1
      refine ⟨fun h => ⟨hKt (hKt hp2 hp3) (hKb _ _ _ _ (by omega) hl3 rfl), .inl ⟨rfl, hI.put h hl3 (by omega) rfl _, World.putObj_heap_same hlt3, hfin _ _ hk3⟩⟩,
        fun c h => ⟨hKt (hKt hp2 hp3) (hKb _ _ _ _ (by omega) hl3 rfl), .inr ⟨rfl, c, (hIx c).put h hl3 (by omega) rfl _, World.putObj_heap_same hlt3, hfin _ _ hk3⟩⟩⟩
  · rintro e W2 ⟨⟨v, rfl⟩, hen, (⟨xs, hS, hi, hl, hd⟩ | ⟨pre, hSp, c, hi, hl, hd⟩)⟩
    · exact ⟨none, _, run_endLoop hl (by simp [lrec]), hdone z xs _ (Nat.le_refl _) hS (hI.put hi hl (by omega) rfl _) (hEn _ _ _ _ (by omega) hl rfl hen) ((World.putObj_heap_other (by omega)).trans hd)⟩
    · exact ⟨some c, _, run_endLoop hl (by simp [lrec]), hstop z c pre _ (Nat.le_refl _) hSp ((hIx c).put hi hl (by omega) rfl _) (hEn _ _ _ _ (by omega) hl rfl hen) ((World.putObj_heap_other (by omega)).trans hd)⟩
theorem wpIn_rangeO_tm {α : Type} {g : Operand} {ps : Array Tmp} {assign body : Code} {Q : Exit → Act → World → Prop} {a : Act} {w : World}
    (hro : F.round = none) (h1 : 1 ≤ n) {gf : Nat} {lb : Array Value} (hg : a.eval g = .func (.func gf) #[] lb) (hFg : F.fn gf) (eg : ∀ args w, (callFunc gf args).run P w = .ok (.enter gf args) w)
    {encs : α → Array Value} {Rs : List Nat} {Kp : World → World → Prop} {S Sp : List α → Prop} {N : Nat} {Pre En : World → Prop} {Ok : Nat → List α → α → World → Prop} (hseq : TellsO F (n - 1) P gf lb encs Rs Kp S Sp N Pre En Ok)
    (hKt : ∀ {A B C : World}, Kp A B → Kp B C → Kp A C) (hKb : ∀ (W : World) (l : Nat) (o o' : Obj), l = w.heap.size + 1 → W.heap[l]? = some o → o.isCells = false → Kp W (W.putObj l o'))
    (hPre : ∀ W, Fr [] w W → W.heap.size = w.heap.size + 2 → Pre W) (hEn : ∀ (W : World) (l : Nat) (o o' : Obj), l = w.heap.size + 1 → W.heap[l]? = some o → o.isCells = false → En W → En (W.putObj l o'))
    (hRs : ∀ r, r ∈ Rs → r < w.heap.size) (hps : ∀ x, (encs x).size = ps.size)
    (I : List α → World → Prop) (Ix : Code → List α → World → Prop) (hI : Ab w.heap.size Rs I) (hIx : ∀ c, Ab w.heap.size Rs (Ix c)) (h0 : I [] w) (Ax : Array Value → α → Act → World → Prop) (hAx : ∀ x a', OwnFrom w.heap.size (fun (_ : Unit) W => Ax a.tmps x a' W))
    (hassign : ∀ (l : Nat) (pre : List α) (x : α) (W : World) (K : Act → World → Prop), I pre W → Ok (w.heap.size + 2) pre x W → (∀ a' W', KeepsFrom w.heap.size W W' → Kp W W' → I pre W' → Ax a.tmps x a' W' → K a' W') →
      assign.wpIn (F.inRound l) (n - 1 - 1) P (Exit.then K (fun _ _ _ => False)) { tmps := (ps.zip (encs x)).foldl (fun t (p, v) => t.setIfInBounds p v) a.tmps, defers := [] } W)
    (hbody : ∀ (l : Nat) (pre : List α) (x : α) (a' : Act) (W : World), w.heap.size ≤ l → (∃ r, W.heap[l]? = some (.loop r)) → I pre W → Ax a.tmps x a' W → pre.length < N → body.wpIn (F.inRound l) (n - 1 - 1) P (leftBy w.heap.size Kp I Ix (pre ++ [x]) W) a' W)
    (hdone : ∀ (D : Nat) (xs : List α) (W : World), w.heap.size ≤ D → S xs → I xs W → En W → W.heap[D]? = some (.deferred (some [])) → Q .normal { a with defers := { target := .collected D, args := #[] } :: a.defers } W)
    (hstop : ∀ (D : Nat) (c : Code) (pre : List α) (W : World), w.heap.size ≤ D → Sp pre → Ix c pre W → En W → W.heap[D]? = some (.deferred (some [])) → c.wpIn F n P Q { a with defers := { target := .collected D, args := #[] } :: a.defers } W) :
    (Code.rangeFunc g ps assign body).wpIn F n P Q a w :=
  wpIn_rangeO hro h1 hg hFg eg hseq hKt hKb hPre hEn hRs hps I Ix hI hIx h0 (Ax a.tmps) hAx hassign hbody hdone hstop
end
end Go.Proofs.YtgoolkgjcmdilaaDoor
end
section
namespace Go.Proofs.YtgoolkgjcmdilaaDoor
open Go.RowKit Flo
set_option linter.unusedVariables false
set_option linter.unusedSimpArgs false
attribute [local go_sem] Oper.semAt_some
/-- The objects that are told lie there. -/
structure KHeld (bl : Nat) (v : Value) (L : List RO) (V : List VO) (W : World) : Prop where
  box : Blk W bl #[v] 125
  own : W.ownsRow 0 119 7 v L.length (encs L)
  al : Al2 (IsT 0 W) L V
/-- Its blocks. -/
def kblks (bl : Nat) (v : Value) (L : List RO) : List Nat := bl :: v.ownBlock.toList ++ L.flatMap (fun x => x.v.ownBlock.toList)
theorem kb_row {bl : Nat} {v : Value} {L : List RO} {g : Nat} (h : v.ownBlock = some g) : g ∈ kblks bl v L := by simp [kblks, h]
theorem kb_id {bl : Nat} {v : Value} {L : List RO} {x : RO} {g : Nat} (hx : x ∈ L) (h : x.v.ownBlock = some g) : g ∈ kblks bl v L := by
  unfold kblks
  rw [List.mem_append, List.mem_flatMap]
  exact .inr ⟨x, hx, by simp [h]⟩
theorem own_same {W W' : World} {e size n : Nat} {v : Value} {xs : List Value} (h : W.ownsRow 0 e size v n xs) (hs : ∀ g, v.ownBlock = some g → W'.heap[g]? = W.heap[g]?) : W'.ownsRow 0 e size v n xs := by
  refine ⟨h.1, ?_⟩
  rcases h.2 with hn | ⟨g, cap, cur, rfl, hb, hgg, rest⟩
  · exact .inl hn
  · exact .inr ⟨g, cap, cur, rfl, hb, (hs g (by simp [Value.ownBlock])).trans hgg, rest⟩
theorem KHeld.same {bl : Nat} {v : Value} {L : List RO} {V : List VO} {W W' : World} (h : KHeld bl v L V W) (hs : ∀ g, g ∈ kblks bl v L → W'.heap[g]? = W.heap[g]?) : KHeld bl v L V W' :=
  ⟨(hs bl (by simp [kblks])).trans h.box, own_same h.own (fun g hg => hs g (kb_row hg)), h.al.mono fun x o hx _ hk => ⟨hk.id, hk.num, hk.t, hk.px, hk.py, hk.sp, own_same hk.own (fun g hg => hs g (kb_id hx hg)), hk.low⟩⟩
theorem KHeld.kpb {bl B : Nat} {v : Value} {L : List RO} {V : List VO} {W W' : World} (h : KHeld bl v L V W) (f : Kpb (kblks bl v L) B W W') : KHeld bl v L V W' := h.same f.1
theorem KHeld.lt {bl : Nat} {v : Value} {L : List RO} {V : List VO} {W : World} (h : KHeld bl v L V W) : ∀ g, g ∈ kblks bl v L → g < W.heap.size := fun g hg => by
  unfold kblks at hg
  rcases List.mem_append.1 hg with hg | hg
  · rcases List.mem_cons.1 hg with rfl | hg
    · exact h.box.lt
    · exact own_lt h.own (by simpa using hg)
  · obtain ⟨x, hx, hg⟩ := List.mem_flatMap.1 hg
    obtain ⟨o, _, hk⟩ := h.al.left hx
    exact own_lt hk.own (by simpa using hg)
theorem KHeld.fr {S : List Nat} {bl : Nat} {v : Value} {L : List RO} {V : List VO} {W W' : World} (h : KHeld bl v L V W) (f : Fr S W W') (hs : ∀ g, g ∈ kblks bl v L → g ∉ S) : KHeld bl v L V W' := h.same fun g hg => f.block g (h.lt g hg) (hs g hg)
theorem KHeld.fr0 {bl : Nat} {v : Value} {L : List RO} {V : List VO} {W W' : World} (h : KHeld bl v L V W) (f : Fr [] W W') : KHeld bl v L V W' := h.fr f (by simp)
def encR (x : RO) : Array Value := #[.agg #[.int .u32 x.id, .int .u32 x.num, .int .u32 x.t, .int .i32 x.px, .int .i32 x.py, .float .f64 x.sp, .slice x.p x.n x.c]]
def OkT (V : List VO) (n0 : Nat) (pre : List RO) (x : RO) (W : World) : Prop := ∃ o, V[pre.length]? = some o ∧ IsT n0 W x o
set_option maxRecDepth 100000 in
set_option maxHeartbeats 2000000 in
theorem allK_tells (m bl B : Nat) (v : Value) (L : List RO) (V : List VO) (hL : L.length ≤ 65536) (hI : ∀ o ∈ V, o.ids.length ≤ 65536) :
    TellsO Fence.wide m Tryd.prog 111 #[.pointer (some ⟨bl, 0, none⟩)] encR [] (Kpb (kblks bl v L) B) (fun xs => xs.length = L.length) (fun _ => True) L.length (KHeld bl v L V) (KHeld bl v L V) (OkT V) := by
  intro l J Jx W hW hJ hJx hY h0
  refine callsIn_of_wp Tryd.func111 rfl trivial ?_ rfl
  simp only [Tryd.ntmps111, List.size_toArray, List.length_cons, List.length_nil, Nat.reduceAdd, Nat.reduceSub, Array.replicate_succ, Array.replicate_zero, List.push_toArray, List.append_toArray, List.nil_append, List.cons_append]
  refine wpIn_wide.2 ?_
  have HJ := Lib.hid hJ
  have HY := Lib.hid hY
  obtain ⟨p, c, hvr⟩ := own_form hW.own
  have HV := Lib.hid hvr
  have c0 := hW.box.at 0 (v := v) rfl
  rw [hvr] at c0
  have HW := Lib.hid (And.intro hW h0)
  clear hJ hJx hY hvr hW h0
  obtain ⟨n, hn⟩ : ∃ n, n = L.length := ⟨_, rfl⟩
  rw [← hn] at c0
  rw [← hn] at hL
  have HN := Lib.hid hn
  clear hn
  go_wp2
  go_loopw [7] (fun i wr => ∃ (j : Nat) (pre : List RO), i = .int .i64 j ∧ j ≤ n ∧ pre.length = j ∧ KHeld bl v L V wr ∧ W.heap.size ≤ wr.heap.size ∧ J pre wr) (fun i _ => n - (intOf i).toNat)
  case atStart => exact ⟨0, [], rfl, Nat.zero_le _, rfl, HW.out.1, Nat.le_refl _, HW.out.2⟩
  case round =>
    obtain ⟨j, pre, rfl, hj, hpl, hA, hsz, hJj⟩ := hrel
    obtain ⟨wi, rfl⟩ : ∃ wi : World, wi = wr := ⟨_, rfl⟩
    by_cases hlt : j < n
    · have hjl : j < L.length := by rw [← HN.out]; exact hlt
      obtain ⟨x, hx⟩ : ∃ x, L[j]? = some x := ⟨_, List.getElem?_eq_getElem hjl⟩
      obtain ⟨o, ho, hxo⟩ := hA.al.get_right hx
      obtain ⟨g, rfl⟩ : ∃ g, p = some ⟨g, 0, none⟩ := by
        rcases hA.own.2 with ⟨_, h9⟩ | ⟨g, cap, cur, h9, _⟩
        · omega
        · rw [HV.out] at h9; cases h9; exact ⟨g, rfl⟩
      obtain ⟨g', o1, cp, hv', hc⟩ := ObS.at (RdF.of_own (by decide) hA.own (by have := HN.out; unfold maxLen; omega)) hx
      rw [HV.out] at hv'
      obtain ⟨q1, -, -⟩ := Value.slice.inj hv'
      obtain ⟨rfl, rfl, -⟩ := Addr.mk.inj (Option.some.inj q1)
      rw [Nat.zero_add] at hc
      have z0 := hc.c0
      have z1 := hc.c1
      have z2 := hc.c2
      have z3 := hc.c3
      have z4 := hc.c4
      have z5 := hc.c5
      have z6 := hc.c6
      obtain ⟨xp, xc, hxf⟩ := own_form hxo.own
      have hox := hI o (List.mem_of_getElem? ho)
      obtain ⟨k0, hk0⟩ : ∃ k0, k0 = o.ids.length := ⟨_, rfl⟩
      obtain ⟨w2, hw2⟩ : ∃ w2, w2 = wi.alloc (.cells #[.int .u32 x.id, .int .u32 x.num, .int .u32 x.t, .int .i32 x.px, .int .i32 x.py, .float .f64 x.sp, .slice x.p x.n x.c] 119) := ⟨_, rfl⟩
      obtain ⟨a4, ha4⟩ : ∃ a4, a4 = wi.heap.size := ⟨_, rfl⟩
      have hb4 : Blk w2 a4 #[.int .u32 x.id, .int .u32 x.num, .int .u32 x.t, .int .i32 x.px, .int .i32 x.py, .float .f64 x.sp, .slice x.p x.n x.c] 119 := by rw [hw2, ha4]; exact Blk.new wi _ _
      have f2 : Fr [] wi w2 := by rw [hw2]; exact (Fr.refl _ _).alloc _
      have hrd : RdF w2 (.slice x.p x.n x.c) k0 1 (u32v o.ids) := by
        have := RdF.of_own (by decide) (own_fr hxo.own f2 (by simp)) (by unfold maxLen; omega)
        rw [← hk0] at this
        exact this
      have HRd := Lib.hid (And.intro hrd (And.intro (World.ownsRow_nil w2 0 33 1) (show k0 ≤ 65536 by omega)))
      have HS := Lib.hid (fun (p1 : Option Addr) (c1 : Nat) (w3 : World) (happ : Appended w2 33 1 (.slice none 0 0) k0 (u32v o.ids) (.slice p1 k0 c1) w3) => show (w3.cell? ⟨a4, 6, none⟩ = some (.slice x.p x.n x.c) ∧ w3.frozen? ⟨a4, 6, none⟩ = false) ∧
          Blk (w3.setCell ⟨a4, 6, none⟩ (.slice p1 k0 c1)) a4 #[.int .u32 x.id, .int .u32 x.num, .int .u32 x.t, .int .i32 x.px, .int .i32 x.py, .float .f64 x.sp, .slice p1 k0 c1] 119 ∧ Fr [] wi (w3.setCell ⟨a4, 6, none⟩ (.slice p1 k0 c1)) ∧
          YieldAt Fence.wide (m - 1) Tryd.prog l (encR ⟨x.id, x.num, x.t, x.px, x.py, x.sp, p1, k0, c1⟩) (w3.setCell ⟨a4, 6, none⟩ (.slice p1 k0 c1)) fun e W' =>
            Kpb (kblks bl v L) B (w3.setCell ⟨a4, 6, none⟩ (.slice p1 k0 c1)) W' ∧ ((e = .returned (.bool true) ∧ J (pre ++ [⟨x.id, x.num, x.t, x.px, x.py, x.sp, p1, k0, c1⟩]) W') ∨ (e = .returned (.bool false) ∧ Jx (pre ++ [⟨x.id, x.num, x.t, x.px, x.py, x.sp, p1, k0, c1⟩]) W')) from by
        have f3 : Fr [] w2 w3 := happ.fr.mono (by simp [Value.ownBlock])
        have hb3 := f3.blk hb4 (by simp)
        have hset := hb3.set 6 (.slice p1 k0 c1)
        simp only [List.setIfInBounds_toArray, List.set_cons_zero, List.set_cons_succ] at hset
        have F5 : Fr [] wi (w3.setCell ⟨a4, 6, none⟩ (.slice p1 k0 c1)) := (f2.trans f3 (by simp)).setCell _ _ (.inr (by rw [ha4]; exact Nat.le_refl _))
        have hnew : ∀ g, (Value.slice p1 k0 c1).ownBlock = some g → w2.heap.size ≤ g := fun g hg => by
          rcases happ.place with q | q
          · rw [hg] at q; simp [Value.ownBlock] at q
          · rw [hg] at q; cases q; exact Nat.le_refl _
        refine ⟨⟨hb3.at 6 rfl, hb3.free 6⟩, hset, F5, HY.out pre _ _ (HJ.out _ wi _ none hJj (grown_fr F5) (by simp)) ⟨o, by rw [hpl]; exact ho, hxo.id, hxo.num, hxo.t, hxo.px, hxo.py, hxo.sp, ?_, ?_⟩ (by omega)⟩
        · have := own_fr happ.own ((Fr.refl [a4] w3).setCell ⟨a4, 6, none⟩ (.slice p1 k0 c1) (.inl (by simp))) (fun g hg hm => by have := hnew g hg; have := hb4.lt; simp at hm; omega)
          rw [hk0] at this
          rw [hk0]
          exact this
        · intro g hg
          have := hnew g hg
          have := f2.size
          omega)
      have HA := Lib.hid (And.intro hA (And.intro hsz hpl))
      have k1 : (0 : Int) ≤ (j : Int) := by omega
      have k2 : (j : Int) < (n : Int) := by omega
      clear hA hJj hx hjl hsz ho hxo hrd hb4 f2 hc hv' q1 hox hk0 hpl hxf
      refine (wpIn_wide (n := m)).1 ?_
      rw [hw2, ha4] at HS
      rw [hw2] at HRd
      clear hw2 ha4 w2 a4
      gi_wp2_with (gi_at_builtin; go_must (refine wpListIn_appF _ rfl _ _ 22 rfl 33 (.int .u32 0) 1 4 Tryd.underlying22 infoU rfl (by decide) (.slice none 0 0) 0 [] rfl HRd.out.2.1 (.slice x.p x.n x.c) k0 (u32v o.ids) rfl HRd.out.1 (u32v_one _) (by have := HRd.out.2.2; unfold maxLen; omega) (by have := HRd.out.2.2; omega) ?_); intro v1 w3 happ; rw [Nat.zero_add, List.nil_append] at happ; obtain ⟨p1, c1, rfl⟩ := own_form happ.own; obtain ⟨⟨cb, cf⟩, hb5, f5, ff, tm, asg, body, hy, hR⟩ := HS.out _ _ _ happ; have y0 := hb5.at 0 rfl; have y1 := hb5.at 1 rfl; have y2 := hb5.at 2 rfl; have y3 := hb5.at 3 rfl; have y4 := hb5.at 4 rfl; have y5 := hb5.at 5 rfl; have y6 := hb5.at 6 rfl; have HR := Lib.hid (And.intro hR f5); clear hR happ hb5 f5; unfold encR at hy; dsimp only at y0 y1 y2 y3 y4 y5 y6 hy)
      refine ⟨fun h => by simp [Fence.wide] at h, HR.out.1.mono ?_⟩
      rintro e W3 ⟨hk3, (⟨rfl, hJ3⟩ | ⟨rfl, hJx3⟩)⟩
      · gi_wp2
        exact ⟨⟨j + 1, pre ++ [_], by go_num, by omega, by rw [List.length_append, List.length_singleton, HA.out.2.2], (HA.out.1.fr0 HR.out.2).kpb hk3, Nat.le_trans HA.out.2.1 (Nat.le_trans HR.out.2.size hk3.2.size), hJ3⟩, by simp [intOf]; omega⟩
      · gi_wp2
        refine bodyPost_ret (results_none rfl _ _ _) rfl ⟨⟨_, rfl⟩, (HA.out.1.fr0 HR.out.2).kpb hk3, .inr ⟨_, trivial, hJx3⟩⟩
    · obtain rfl : j = n := by omega
      have HA := Lib.hid (And.intro hA (And.intro hpl hJj))
      clear hA hpl hJj hsz
      go_wp2
      go_end0
      exact ⟨⟨_, rfl⟩, HA.out.1, .inl ⟨pre, by rw [HA.out.2.1]; exact HN.out, HA.out.2.2⟩⟩
end Go.Proofs.YtgoolkgjcmdilaaDoor
end
section
namespace Go.Proofs.YtgoolkgjcmdilaaDoor
open Go.RowKit Flo
set_option linter.unusedVariables false
set_option linter.unusedSimpArgs false
attribute [local go_sem] Oper.semAt_some
set_option maxRecDepth 100000 in
set_option maxHeartbeats 1000000 in
theorem sameIds_any (w : World) (p1 p2 : Option Addr) (n k1 k2 : Nat) (A : List Int) (hn : n = A.length) (ha : IdS w (.slice p1 n k1) A) (hb : IdS w (.slice p2 n k2) A) (hl : n ≤ 9223372036854775807) : Calls Tryd.prog 56 #[.slice p1 n k1, .slice p2 n k2] w fun e w' => e = .returned (.bool true) ∧ Fr [] w w' := by
  have H1 := Lib.hid ha
  have H2 := Lib.hid hb
  have HN := Lib.hid hn
  clear ha hb hn
  go_enter Tryd.func56, Tryd.ntmps56
  go_wp2_with fail
  go_loopw [5] (fun iw wr => ∃ i : Nat, iw = .int .i64 i ∧ i ≤ n ∧ Fr [] w wr) (fun iw _ => n - (intOf iw).toNat)
  case atStart => exact ⟨0, rfl, Nat.zero_le _, Fr.refl _ _⟩
  case round =>
    obtain ⟨i, rfl, hi, hf⟩ := hrel
    obtain ⟨wi, hwi⟩ : ∃ wi : World, wi = wr := ⟨_, rfl⟩
    rw [← hwi] at hf ⊢
    clear hwi
    by_cases hin : i < n
    · obtain ⟨x, hx⟩ : ∃ x, A[i]? = some x := ⟨_, List.getElem?_eq_getElem (by rw [← HN.out]; exact hin)⟩
      obtain ⟨g1, o1, cp1, e1, q1⟩ := IdS.at (H1.out.grow hf) hx
      obtain ⟨g2, o2, cp2, e2, q2⟩ := IdS.at (H2.out.grow hf) hx
      obtain ⟨rfl, -, -⟩ := Value.slice.inj e1
      obtain ⟨rfl, -, -⟩ := Value.slice.inj e2
      clear e1 e2 hx
      have g0 : (0 : Int) ≤ (i : Int) := by omega
      have g1' : (i : Int) < (n : Int) := by omega
      have HF := Lib.hid hf
      clear hf
      go_wp2_with fail
      go_region
      simp only [Exit.then]
      go_wp2_with fail
      refine ⟨⟨i + 1, by go_num, by omega, HF.out.drew⟩, by simp [intOf]; omega⟩
    · obtain rfl : i = n := by omega
      have HF := Lib.hid hf
      clear hf
      go_wp2_with fail
      go_ret
      exact ⟨rfl, HF.out⟩
set_option maxRecDepth 100000 in
set_option maxHeartbeats 1000000 in
theorem sameObject_any (w : World) (id num t px py : Int) (s1 s2 : Nat) (p1 p2 : Option Addr) (n k1 k2 : Nat) (A : List Int) (hs : FE s1 s2) (hn : n = A.length) (ha : IdS w (.slice p1 n k1) A) (hb : IdS w (.slice p2 n k2) A) (hl : n ≤ 9223372036854775807) :
    Calls Tryd.prog 115 #[.agg #[.int .u32 id, .int .u32 num, .int .u32 t, .int .i32 px, .int .i32 py, .float .f64 s1, .slice p1 n k1], .agg #[.int .u32 id, .int .u32 num, .int .u32 t, .int .i32 px, .int .i32 py, .float .f64 s2, .slice p2 n k2]] w fun e w' => e = .returned (.bool true) ∧ Fr [] w w' := by
  have F0 : Fr [] w ((w.alloc (.cells #[.int .u32 id, .int .u32 num, .int .u32 t, .int .i32 px, .int .i32 py, .float .f64 s1, .slice p1 n k1] 119)).alloc (.cells #[.int .u32 id, .int .u32 num, .int .u32 t, .int .i32 px, .int .i32 py, .float .f64 s2, .slice p2 n k2] 119)) := ((Fr.refl _ _).alloc _).alloc _
  have HS := Lib.hid (same_any ((w.alloc (.cells #[.int .u32 id, .int .u32 num, .int .u32 t, .int .i32 px, .int .i32 py, .float .f64 s1, .slice p1 n k1] 119)).alloc (.cells #[.int .u32 id, .int .u32 num, .int .u32 t, .int .i32 px, .int .i32 py, .float .f64 s2, .slice p2 n k2] 119)) s1 s2 hs)
  have HI := Lib.hid (sameIds_any ((w.alloc (.cells #[.int .u32 id, .int .u32 num, .int .u32 t, .int .i32 px, .int .i32 py, .float .f64 s1, .slice p1 n k1] 119)).alloc (.cells #[.int .u32 id, .int .u32 num, .int .u32 t, .int .i32 px, .int .i32 py, .float .f64 s2, .slice p2 n k2] 119)) p1 p2 n k1 k2 A hn (ha.grow F0) (hb.grow F0) hl)
  have HF := Lib.hid F0
  clear hs hn ha hb F0
  go_enter Tryd.func115, Tryd.ntmps115
  go_wp2_with fail
  (with_reducible refine (HS.out).mono ?_)
  rintro e w1 ⟨rfl, rfl⟩
  go_wp2_with fail
  (with_reducible refine (HI.out).mono ?_)
  rintro e w1 ⟨rfl, f1⟩
  have HF1 := Lib.hid f1
  clear f1
  go_wp2_with fail
  refine bodyPost_ret (v := .bool true) (by simp [results, Tryd.results115, go_sem]) rfl ⟨rfl, HF.out.trans HF1.out (by simp)⟩
end Go.Proofs.YtgoolkgjcmdilaaDoor
end
