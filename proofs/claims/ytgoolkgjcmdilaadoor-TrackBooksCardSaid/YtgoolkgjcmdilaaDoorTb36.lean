/-
  TrackBooks: for every two sizes and every script over a book each answer, what All told when it was taken, and all objects at the end are the document's (the tied card).
-/
import Derived.Test.YtgoolkgjcmdilaaDoorChecked
import Derived.Test.YtgoolkgjcmdilaaDoorRows
import Derived.JoinedCond
import Derived.SizedLaws
import Derived.Deep.DeepHandedRow
import Derived.Lib.LaidTab
import Derived.Test.YtgoolkgjcmdilaaDoorCards
import Derived.Test.YtgoolkgjcmdilaaDoorTie
import Derived.Test.YtgoolkgjcmdilaaDoorTb1
import Derived.Test.YtgoolkgjcmdilaaDoorTb11
import Derived.Test.YtgoolkgjcmdilaaDoorTb13
import Derived.Test.YtgoolkgjcmdilaaDoorTb35
section
namespace Go.Proofs.YtgoolkgjcmdilaaDoor.cardK
open Go.RowKit Go.ChangeShapes Go.WideShapes Go.ChangeAt
set_option linter.unusedVariables false
set_option linter.unusedSimpArgs false
theorem own : ownKnob Tryd.prog.godebug = none := by kernel_rfl
theorem laidOut : laidOutB Tryd.prog = true := by kernel_rfl
theorem gTab : Tryd.prog.globalNamed "math/bits.deBruijn64tab" = some 1 := by kernel_rfl
theorem gTabType : (Tryd.prog.globals[1]?).map (·.type) = some 228 := by kernel_rfl
theorem cells228 : Tryd.prog.cellsOf 228 = 64 := by kernel_rfl
theorem cells5 : Tryd.prog.cellsOf 5 = 1 := by kernel_rfl
def deBI : List Int := [0, 1, 56, 2, 57, 49, 28, 3, 61, 58, 42, 50, 38, 29, 17, 4, 62, 47, 59, 36, 45, 43, 51, 22, 53, 39, 33, 30, 24, 18, 12, 5, 63, 55, 48, 27, 60, 41, 37, 16, 46, 35, 44, 21, 52, 32, 23, 11, 54, 26, 40, 15, 34, 20, 31, 10, 25, 14, 19, 9, 13, 8, 7, 6]
abbrev laidL : List (String × DataW Unit) := [("math/bits.deBruijn64tab", Rows.laid_math_bits_deBruijn64tab)]
theorem table {W : World} (h : laidMetH Tryd.prog laidL W) : Lib.TabIs Tryd.prog W "math/bits.deBruijn64tab" .u8 deBI :=
  Lib.tabIs_of_head (rest := []) gTab gTabType Tryd.underlying228 Tryd.underlying5 cells5 cells228 h
theorem deB_all : (List.range 64).all (fun i => decide (deBI[i]? = some ((deB.getD i 0 : Nat) : Int))) = true := by decide +kernel
theorem deB_of {W : World} (h : laidMetH Tryd.prog laidL W) : DeB W := fun i hi => by
  have h1 := (table h).cell gTab i hi
  have h2 := List.all_eq_true.1 deB_all i (List.mem_range.2 hi)
  have h3 : deBI[i]? = some ((deB.getD i 0 : Nat) : Int) := by simpa using h2
  rw [List.getD_eq_getElem?_getD, h3] at h1
  exact h1
/-- A world for the witness: the settled one, the table in its block. -/
noncomputable def laidWorld (os : Os) : World :=
  { World.holding Tryd.prog os ⟨#[], #[], []⟩ with heap := (World.holding Tryd.prog os ⟨#[], #[], []⟩).heap.modify 1 fun
      | .cells _ t frozen => .cells (deBI.map fun z => Value.int .u8 z).toArray t frozen
      | o => o }
section
variable {P : Program} {w : World} {base : Nat} {spare : Nat → Bool} {held : Bool} {H : Type} {enc : TypeId × Value → H}
/-- How many elements were read. -/
def dlen : DataW H → Nat
  | .slice es _ => es.length
  | _ => 0
theorem read_list {α : Type} {t e : TypeId} {fuel : Nat} {cs : List Value} {x : DataW H × List MemPlace} (ht : P.underlying t = some (.slice e)) (hc : 0 < P.cellsOf e) (Q : List Value → α → Prop)
    (hel : ∀ n cs x, DataW.trod enc P w base spare held n e cs = some x → ∃ a, Q cs a) (h : DataW.trod enc P w base spare held fuel t cs = some x) :
    ∃ v ys, cs = [v] ∧ RdS w v (P.cellsOf e) Q ys ∧ dlen x.1 = ys.length := by
  rcases Deep.open_slice ht h with ⟨rfl, rfl⟩ | ⟨a, len, cap, m, n, D, Pl, rfl, hb, hl, hm, hmm, rfl, hx⟩
  · exact ⟨_, [], rfl, ⟨none, 0, rfl, Nat.le_refl _, by decide, .inl rfl⟩, rfl⟩
  · have hlm : len ≤ m := by rw [hmm]; split <;> omega
    have hx' : ∀ i, i < len → ∃ y : α × List Value, w.cells? base (a.add (i * P.cellsOf e)) (P.cellsOf e) = some y.2 ∧ Q y.2 y.1 := fun i hi => by
      obtain ⟨cs', h1, h2⟩ := hx i (by omega)
      obtain ⟨b, hb⟩ := hel _ _ _ h2
      exact ⟨(b, cs'), h1, hb⟩
    by_cases h0 : len = 0
    · subst h0
      exact ⟨_, [], rfl, ⟨some a, cap, rfl, Nat.zero_le _, hm, .inl rfl⟩, by simp [dlen]⟩
    · obtain ⟨y0, hy0⟩ := hx' 0 (by omega)
      haveI : Inhabited (α × List Value) := ⟨y0⟩
      obtain ⟨F, hF⟩ := Deep.choose_lt hx'
      have hsp : a = ⟨a.block, a.off, none⟩ := by
        obtain ⟨_, hl2, hg⟩ := World.cells?_some hy0.1
        have h2 := hg 0 hc
        rw [List.getElem?_eq_getElem (by omega)] at h2
        have h3 : w.cell? a = some y0.2[0] := by simpa [Addr.add] using h2
        exact addr_of_cell h3
      refine ⟨_, (List.range len).map fun i => (F i).1, rfl, ⟨some a, cap, by simp, by simpa using hl, hm, .inr ⟨a.block, a.off, by rw [← hsp], fun k hk => ?_⟩⟩, by simp [dlen]⟩
      have hk' : k < len := by simpa using hk
      obtain ⟨h1, h2⟩ := hF k hk'
      obtain ⟨_, hl2, hg⟩ := World.cells?_some h1
      refine ⟨(F k).2, hl2, fun j u hu => ?_, by simpa using h2⟩
      have hj : j < P.cellsOf e := by rw [← hl2]; exact (List.getElem?_eq_some_iff.1 hu).1
      have h3 := hg j hj
      rw [hu, Deep.add_add] at h3
      rw [hsp] at h3
      simpa [Addr.add_lit, Nat.add_assoc] using h3
end
end Go.Proofs.YtgoolkgjcmdilaaDoor.cardK
end
section
namespace Go.Proofs.YtgoolkgjcmdilaaDoor.cardT
open Go.RowKit Go.ChangeShapes Go.WideShapes Go.ChangeAt cardK
set_option linter.unusedVariables false
set_option linter.unusedSimpArgs false
theorem cells98 : Tryd.prog.cellsOf 98 = 2 := by kernel_rfl
theorem read_float {W : World} {H : Type} {enc : TypeId × Value → H} {t : TypeId} {k : FloatKind} {fuel : Nat} {cs : List Value} {x : DataW H × List MemPlace} (ht : Tryd.prog.underlying t = some (.float k)) (h : DataW.trod enc Tryd.prog W 0 (fun _ => true) true fuel t cs = some x) : ∃ b : Nat, cs = [.float k b] := by
  cases fuel with
  | zero => simp [DataW.trod] at h
  | succ n =>
    unfold DataW.trod at h
    rw [ht] at h
    split at h <;> simp_all
theorem l2 {α : Type} {l : List α} (h : l.length = 2) : ∃ a b, l = [a, b] := by
  match l, h with
  | [a, b], _ => exact ⟨a, b, rfl⟩
theorem bounds_i32 {n : Int} (h : (Lit.int .i32 n).wf = true) : I32 n := by
  simp [Lit.wf, IntKind.min, IntKind.max, IntKind.signed, IntKind.bits] at h
  unfold I32
  omega
set_option maxRecDepth 100000 in
theorem read_pt {W : World} {H : Type} {enc : TypeId × Value → H} {fuel : Nat} {cs : List Value} {x : DataW H × List MemPlace} (h : DataW.trod enc Tryd.prog W 0 (fun _ => true) true fuel 98 cs = some x) : ∃ a b : Int, cs = [.int .i32 a, .int .i32 b] ∧ I32 a ∧ I32 b := by
  obtain ⟨xs, m, _, _, hl, hlen, hf⟩ := DataW.trod_struct Tryd.underlying98 h
  rw [cells98] at hl
  obtain ⟨c0, c1, rfl⟩ := l2 hl
  obtain ⟨y0, y1, rfl⟩ := l2 hlen
  obtain ⟨a, h0, w0⟩ := read_int Tryd.underlying21 (hf 0 _ rfl)
  obtain ⟨b, h1, w1⟩ := read_int Tryd.underlying21 (hf 1 _ rfl)
  have q0 : [c0] = [Value.int .i32 a] := h0
  have q1 : [c1] = [Value.int .i32 b] := h1
  cases q0; cases q1
  exact ⟨a, b, rfl, bounds_i32 w0, bounds_i32 w1⟩
theorem l6 {α : Type} {l : List α} (h : l.length = 6) : ∃ a b c d e f, l = [a, b, c, d, e, f] := by
  match l, h with
  | [a, b, c, d, e, f], _ => exact ⟨a, b, c, d, e, f, rfl⟩
end Go.Proofs.YtgoolkgjcmdilaaDoor.cardT
end
section
namespace Go.Proofs.YtgoolkgjcmdilaaDoor
open Go.RowKit Go.ChangeShapes Go.WideShapes Go.ChangeAt cardK cardT
set_option linter.unusedVariables false
set_option linter.unusedSimpArgs false
namespace trackBooks
theorem cells33 : Tryd.prog.cellsOf 33 = 1 := by kernel_rfl
theorem cells121 : Tryd.prog.cellsOf 121 = 14 := by kernel_rfl
theorem bytes33 : Tryd.prog.bytesOf 33 = 4 := by kernel_rfl
theorem bytes121 : Tryd.prog.bytesOf 121 = 88 := by kernel_rfl
theorem l7 {α : Type} {l : List α} (h : l.length = 7) : ∃ a b c d e f g, l = [a, b, c, d, e, f, g] := by
  match l, h with
  | [a, b, c, d, e, f, g], _ => exact ⟨a, b, c, d, e, f, g, rfl⟩
theorem l14 {α : Type} {l : List α} (h : l.length = 14) : ∃ a b c d e f g a' b' c' d' e' f' g', l = [a, b, c, d, e, f, g, a', b', c', d', e', f', g'] := by
  match l, h with
  | [a, b, c, d, e, f, g, a', b', c', d', e', f', g'], _ => exact ⟨a, b, c, d, e, f, g, a', b', c', d', e', f', g', rfl⟩
section
variable {P : Program} {w : World} {base : Nat} {spare : Nat → Bool} {held : Bool} {H : Type} {enc : TypeId × Value → H}
theorem mem_all {e : TypeId} {d : DataW H} : ∀ {es : List (DataW H)}, d ∈ es → ∀ n ∈ d.weights P e, n ∈ DataW.weightsAll P e es
  | x :: es, h, n, hn => by
    simp only [DataW.weightsAll, List.mem_append]
    rcases List.mem_cons.1 h with rfl | h
    · exact .inl hn
    · exact .inr (mem_all h n hn)
/-- A list, each element with what it may weigh. -/
theorem read_list_w {α : Type} {t e : TypeId} {fuel : Nat} {cs : List Value} {x : DataW H × List MemPlace} (ht : P.underlying t = some (.slice e)) (hc : 0 < P.cellsOf e) (Q : List Value → α → Prop)
    (hel : ∀ n cs x, DataW.trod enc P w base spare held n e cs = some x → (∀ k ∈ x.1.weights P e, k ≤ reachBytes) → ∃ a, Q cs a) (h : DataW.trod enc P w base spare held fuel t cs = some x) (hw : ∀ k ∈ x.1.weights P t, k ≤ reachBytes) :
    ∃ v ys, cs = [v] ∧ RdS w v (P.cellsOf e) Q ys ∧ dlen x.1 = ys.length := by
  rcases Deep.open_slice ht h with ⟨rfl, rfl⟩ | ⟨a, len, cap, m, n, D, Pl, rfl, hb, hl, hm, hmm, rfl, hx⟩
  · exact ⟨_, [], rfl, ⟨none, 0, rfl, Nat.le_refl _, by decide, .inl rfl⟩, rfl⟩
  · have hlm : len ≤ m := by rw [hmm]; split <;> omega
    have hx' : ∀ i, i < len → ∃ y : α × List Value, w.cells? base (a.add (i * P.cellsOf e)) (P.cellsOf e) = some y.2 ∧ Q y.2 y.1 := fun i hi => by
      obtain ⟨cs', h1, h2⟩ := hx i (by omega)
      obtain ⟨b, hb⟩ := hel _ _ _ h2 (fun k hk => hw k (by
        simp only [DataW.weights, ht, List.mem_cons, List.mem_append]
        exact .inr (.inl (mem_all (List.mem_map.2 ⟨i, List.mem_range.2 hi, rfl⟩) k hk))))
      exact ⟨(b, cs'), h1, hb⟩
    by_cases h0 : len = 0
    · subst h0
      exact ⟨_, [], rfl, ⟨some a, cap, rfl, Nat.zero_le _, hm, .inl rfl⟩, by simp [dlen]⟩
    · obtain ⟨y0, hy0⟩ := hx' 0 (by omega)
      haveI : Inhabited (α × List Value) := ⟨y0⟩
      obtain ⟨F, hF⟩ := Deep.choose_lt hx'
      have hsp : a = ⟨a.block, a.off, none⟩ := by
        obtain ⟨_, hl2, hg⟩ := World.cells?_some hy0.1
        have h2 := hg 0 hc
        rw [List.getElem?_eq_getElem (by omega)] at h2
        have h3 : w.cell? a = some y0.2[0] := by simpa [Addr.add] using h2
        exact addr_of_cell h3
      refine ⟨_, (List.range len).map fun i => (F i).1, rfl, ⟨some a, cap, by simp, by simpa using hl, hm, .inr ⟨a.block, a.off, by rw [← hsp], fun k hk => ?_⟩⟩, by simp [dlen]⟩
      have hk' : k < len := by simpa using hk
      obtain ⟨h1, h2⟩ := hF k hk'
      obtain ⟨_, hl2, hg⟩ := World.cells?_some h1
      refine ⟨(F k).2, hl2, fun j u hu => ?_, by simpa using h2⟩
      have hj : j < P.cellsOf e := by rw [← hl2]; exact (List.getElem?_eq_some_iff.1 hu).1
      have h3 := hg j hj
      rw [hu, Deep.add_add] at h3
      rw [hsp] at h3
      simpa [Addr.add_lit, Nat.add_assoc] using h3
end
theorem weigh_struct {H : Type} {t : TypeId} {fs : Array Field} {parts : List (DataW H)} (hu : Tryd.prog.underlying t = some (.struct fs)) (hw : ∀ k ∈ (DataW.agg parts).weights Tryd.prog t, k ≤ reachBytes) {j : Nat} {tj : TypeId} {d : DataW H} (ht : (fs.toList.map (·.type))[j]? = some tj) (hd : parts[j]? = some d) : ∀ k ∈ d.weights Tryd.prog tj, k ≤ reachBytes := fun k hk => hw k (by
  unfold DataW.weights
  rw [hu]
  exact DataW.weights_mem_each ht hd k hk)
theorem flat_ids (l : List Int) : l.flatMap (fun a => [Value.int .u32 a]) = u32v l := by
  unfold u32v
  induction l with
  | nil => rfl
  | cons a l ih => rw [List.flatMap_cons, ih, List.map_cons]; rfl
/-- Ids. -/
theorem read_ids {W : World} {H : Type} {enc : TypeId × Value → H} {fuel : Nat} {cs : List Value} {x : DataW H × List MemPlace} (h : DataW.trod enc Tryd.prog W 0 (fun _ => true) true fuel 22 cs = some x) (hw : ∀ k ∈ x.1.weights Tryd.prog 22, k ≤ reachBytes) :
    ∃ p n c I, cs = [.slice p n c] ∧ IdS W (.slice p n c) I ∧ n = I.length ∧ (∀ f ∈ I, U32 f) ∧ n ≤ 35184372088832 := by
  obtain ⟨u, l, hu, hr, hd⟩ := read_list Tryd.underlying22 (by rw [cells33]; decide) (fun cs (a : Int) => cs = [.int .u32 a] ∧ U32 a) (fun n cs x hx => by
    obtain ⟨a, h1, h2⟩ := read_int Tryd.underlying33 hx
    exact ⟨a, h1, bounds_u32 h2⟩) h
  rw [cells33] at hr
  have hrf := RdF.of_rds (fun a => [Value.int .u32 a]) (fun _ => rfl) (by decide) (fun cs a hq => hq.1) hr
  rw [flat_ids] at hrf
  obtain ⟨p, cap, rfl, _, _, h0⟩ := hr
  refine ⟨p, l.length, cap, l, hu, hrf, rfl, fun f hf => ?_, ?_⟩
  · obtain ⟨k, hk⟩ := List.mem_iff_getElem?.1 hf
    obtain ⟨hk1, e⟩ := List.getElem?_eq_some_iff.1 hk
    rcases h0 with h0 | ⟨g, o, rfl, h0⟩
    · omega
    · obtain ⟨cs, _, _, _, hq⟩ := h0 k hk1
      rw [e] at hq
      exact hq
  · have : dlen x.1 * 4 ≤ 140737488351232 := by
      cases hx1 : x.1 with
      | slice es sp =>
        have h5 := hw ((es.length + sp.length) * 4) (by rw [hx1]; simp [DataW.weights, Tryd.underlying22, bytes33])
        have h6 : reachBytes = 140737488351232 := rfl
        rw [h6] at h5
        simp only [dlen]
        omega
      | _ => simp [dlen]
    omega
set_option maxRecDepth 100000 in
theorem read_stepv {W : World} {H : Type} {enc : TypeId × Value → H} {fuel : Nat} {cs : List Value} {x : DataW H × List MemPlace} (h : DataW.trod enc Tryd.prog W 0 (fun _ => true) true fuel 121 cs = some x) (hw : ∀ k ∈ x.1.weights Tryd.prog 121, k ≤ reachBytes) :
    ∃ s : SV, cs = encS s ∧ StepOk W s := by
  obtain ⟨xs, m, _, rfl, hl, hlen, hf⟩ := DataW.trod_struct Tryd.underlying121 h
  rw [cells121] at hl
  obtain ⟨c0, c1, c2, c3, c4, c5, c6, c7, c8, c9, ca, cb, cc, cd, rfl⟩ := l14 hl
  obtain ⟨y0, y1, y2, y3, y4, y5, y6, rfl⟩ := l7 hlen
  obtain ⟨kd, h0, _⟩ := read_int Tryd.underlying3 (hf 0 _ rfl)
  obtain ⟨ob, h1, w1⟩ := read_int Tryd.underlying33 (hf 1 _ rfl)
  obtain ⟨fe, h2, w2⟩ := read_int Tryd.underlying33 (hf 2 _ rfl)
  obtain ⟨nu, h3, _⟩ := read_int Tryd.underlying33 (hf 3 _ rfl)
  obtain ⟨ti, h4, w4⟩ := read_int Tryd.underlying33 (hf 4 _ rfl)
  obtain ⟨px, py, h5, b1, b2⟩ := read_pt (hf 5 _ rfl)
  have hw6 := weigh_struct Tryd.underlying121 hw (j := 6) (tj := 119) (d := y6.1) rfl rfl
  obtain ⟨zs, m6, _, hy6, hl6, hlen6, hf6⟩ := DataW.trod_struct Tryd.underlying119 (hf 6 _ rfl)
  rw [hy6] at hw6
  dsimp only at hw6
  obtain ⟨z0, z1, z2, z3, z4, z5, rfl⟩ := l6 hlen6
  obtain ⟨a0, i0, v0⟩ := read_int Tryd.underlying33 (hf6 0 _ rfl)
  obtain ⟨a1, i1, _⟩ := read_int Tryd.underlying33 (hf6 1 _ rfl)
  obtain ⟨a2, i2, v2⟩ := read_int Tryd.underlying33 (hf6 2 _ rfl)
  obtain ⟨a3, a4, i3, b3, b4⟩ := read_pt (hf6 3 _ rfl)
  obtain ⟨sp, i4⟩ := read_float Tryd.underlying102 (hf6 4 _ rfl)
  obtain ⟨up, un, uc, I, i5, r5, n5, u5, m5⟩ := read_ids (hf6 5 _ rfl) (weigh_struct Tryd.underlying119 hw6 (j := 5) (tj := 22) (d := z5.1) rfl rfl)
  have q0 : [c0] = [Value.int .i64 kd] := h0
  have q1 : [c1] = [Value.int .u32 ob] := h1
  have q2 : [c2] = [Value.int .u32 fe] := h2
  have q3 : [c3] = [Value.int .u32 nu] := h3
  have q4 : [c4] = [Value.int .u32 ti] := h4
  have q5 : [c5, c6] = [Value.int .i32 px, .int .i32 py] := h5
  have p0 : [c7] = [Value.int .u32 a0] := i0
  have p1 : [c8] = [Value.int .u32 a1] := i1
  have p2 : [c9] = [Value.int .u32 a2] := i2
  have p3 : [ca, cb] = [Value.int .i32 a3, .int .i32 a4] := i3
  have p4 : [cc] = [Value.float .f64 sp] := i4
  have p5 : [cd] = [Value.slice up un uc] := i5
  cases q0; cases q1; cases q2; cases q3; cases q4; cases q5; cases p0; cases p1; cases p2; cases p3; cases p4; cases p5
  exact ⟨⟨kd, ob, fe, nu, ti, px, py, a0, a1, a2, a3, a4, sp, up, un, uc, I⟩, rfl, bounds_u32 w1, bounds_u32 w2, bounds_u32 w4, b1, b2, bounds_u32 v0, bounds_u32 v2, b3, b4, r5, n5, u5, m5⟩
theorem read_script {W : World} {H : Type} {enc : TypeId × Value → H} {fuel : Nat} {v : Value} {x : DataW H × List MemPlace} (h : DataW.trod enc Tryd.prog W 0 (fun _ => true) true fuel 111 [v] = some x) (hw : ∀ k ∈ x.1.weights Tryd.prog 111, k ≤ reachBytes) :
    ∃ l : List SV, RdF W v l.length 14 (l.flatMap encS) ∧ (∀ s ∈ l, StepOk W s) ∧ l.length ≤ 1599289640401 := by
  obtain ⟨u, l, hu, hr, hd⟩ := read_list_w Tryd.underlying111 (by rw [cells121]; decide) (fun cs (s : SV) => cs = encS s ∧ StepOk W s) (fun n cs x hx hwx => read_stepv hx hwx) h hw
  rw [cells121] at hr
  have hvu : v = u := by simpa using hu
  subst hvu
  refine ⟨l, RdF.of_rds encS encS_len (by decide) (fun cs a hq => hq.1) hr, fun s hs => ?_, ?_⟩
  · obtain ⟨p, cap, rfl, _, _, h0⟩ := hr
    obtain ⟨k, hk⟩ := List.mem_iff_getElem?.1 hs
    obtain ⟨hk1, e⟩ := List.getElem?_eq_some_iff.1 hk
    rcases h0 with h0 | ⟨g, o, rfl, h0⟩
    · omega
    · obtain ⟨cs, _, _, _, hq⟩ := h0 k hk1
      rw [e] at hq
      exact hq
  · have : dlen x.1 * 88 ≤ 140737488351232 := by
      cases hx1 : x.1 with
      | slice es sp =>
        have h5 := hw ((es.length + sp.length) * 88) (by rw [hx1]; simp [DataW.weights, Tryd.underlying111, bytes121])
        have h6 : reachBytes = 140737488351232 := rfl
        rw [h6] at h5
        simp only [dlen]
        omega
      | _ => simp [dlen]
    omega
set_option maxRecDepth 100000 in
theorem contract (H : Type) (enc : TypeId × Value → H) (W : World) (base : Nat) (args : Array Value) (ds gs : List (DataW H)) (before : List MemPlace)
    (hval : ∀ (j : Nat) t v, Tryd.f9.params[j]? = some t → args[j]? = some v → Value.okWide Tryd.prog W .any base t v)
    (hW : DataW.Whole enc Tryd.prog Tryd.f9.params.toList Rows.trackBooksSpec.vars false W args.toList ds gs before) (hsz : (DataW.weightsEach Tryd.prog (Tryd.f9.params.toList ++ (OpenSpec.ofChange Rows.trackBooksSpec).bare.plain.varTypes Tryd.prog) (ds ++ gs)).all (· ≤ reachBytes) = true) (hL : laidMetH Tryd.prog laidL W) :
    Calls Tryd.prog 9 args W fun e W' => ∃ v, e = .returned v ∧ Rows.trackBooksSpec.post enc Tryd.prog Tryd.f9 false true false false W args v W' := by
  have hW' := hW
  obtain ⟨p, q, hA, hV, rfl, hfz, hnd⟩ := hW
  rw [Tryd.params9] at hA hval hsz
  obtain ⟨v0, v1, v2, d0, d1, d2, p0, p1, p2, hargs, rfl, rfl, h0, h1, h2⟩ := trodAll_three hA
  obtain ⟨rfl, rfl⟩ := trodVars_none hV
  have : args = #[v0, v1, v2] := by simpa using hargs
  subst this
  obtain ⟨a, rfl, -⟩ := open_int Tryd.underlying3 (hval 0 3 v0 rfl rfl) h0
  obtain ⟨b, rfl, -⟩ := open_int Tryd.underlying3 (hval 1 3 v1 rfl rfl) h1
  obtain ⟨ps, ns, cs, rfl⟩ := okWide_slice Tryd.underlying111 (hval 2 111 v2 rfl rfl)
  obtain ⟨f2, hf2⟩ := h2
  obtain ⟨Ss, hS, hok, hlim⟩ := read_script hf2 (fun k hk => by
    have := List.all_eq_true.1 hsz k (DataW.weights_mem_each (j := 2) (t := 111) (d := d2) rfl rfl k hk)
    simpa using this)
  obtain ⟨_, _, hv, -, -⟩ := hS.form
  obtain ⟨-, rfl, -⟩ := Value.slice.inj hv
  refine (books_walk W (deB_of hL) a b ps _ cs Ss hS rfl hok hlim).mono fun e W' ⟨he, hg⟩ => ?_
  exact ⟨_, he, law_post (tb := 4) laidOut (by
    rw [Tryd.params9]; intro t ht; simp at ht
    rcases ht with rfl | rfl
    · exact ⟨by kernel_rfl, of_decide_eq_true (by kernel_rfl)⟩
    · exact ⟨by kernel_rfl, of_decide_eq_true (by kernel_rfl)⟩) rfl Tryd.underlying4 rfl hW' rfl hg⟩
theorem laid_met (os : Os) : laidMet Tryd.prog laidL ((laidWorld os).forCall (fun _ _ => 0) ⟨#[], #[.int .i64 0, .int .i64 0, .slice none 0 0], []⟩).memory :=
  laidMet_of_run' 8 (by kernel_rfl) (by kernel_rfl)
theorem reads (os : Os) {H : Type} (enc : TypeId × Value → H) : ∃ places, DataW.whole enc Tryd.prog ((laidWorld os).forCall (fun _ _ => 0) ⟨#[], #[.int .i64 0, .int .i64 0, .slice none 0 0], []⟩).memory Tryd.f9.params.toList Rows.trackBooksSpec.vars false (#[.int .i64 0, .int .i64 0, .slice none 0 0] : Array Value).toList 8 = some ([.lit (.int .i64 0), .lit (.int .i64 0), .nil], [], places) :=
  ⟨[], by kernel_rfl⟩
set_option maxRecDepth 100000 in
theorem lifted (os : Os) (started : os.Started) (H : Type) (enc : TypeId × Value → H) (F : Stop.Interp) :
    ReturnsInHanded {} Tryd.checked os 9 .any ((OpenSpec.ofChange Rows.trackBooksSpec).preRow enc Tryd.prog Tryd.f9 Rows.trackBooksRow.domain false Rows.trackBooksRow.laid) (((OpenSpec.ofChange Rows.trackBooksSpec).at F).post enc Tryd.prog Tryd.f9 false true false false) := by
  obtain ⟨places, hx⟩ := reads os enc
  refine returnsInHanded_of_row (C := Tryd.checked) (s := OpenSpec.ofChange Rows.trackBooksSpec) own started (by kernel_rfl) Tryd.func9
    (witness_row_at (enc := enc) (C := Tryd.checked) false (laidWorld os) #[.int .i64 0, .int .i64 0, .slice none 0 0] rfl (by kernel_rfl) (by kernel_rfl) (by kernel_rfl)
      (OpenSpec.preRow_of_cond 8 hx (by kernel_rfl) (fun k hk => by cases hk) (by kernel_rfl) (laid_met os))) ?_
  intro W base args ds gs before hval hW _ _ hsz hL _ _
  exact contract H enc W base args ds gs before hval hW hsz hL
theorem said : Rows.TrackBooksSaid :=
  OpenClaim.holds_of_cond 9 Tryd.f9 rfl rfl rfl rfl rfl rfl rfl ⟨rfl, rfl, rfl, rfl, rfl⟩ rfl rfl rfl rfl rfl (by kernel_rfl) Tryd.func9 (by kernel_rfl)
    (of_decide_eq_true (by kernel_rfl)) (by unfold Func.isWrapper; first | (rw [if_pos (by decide +kernel)]; kernel_rfl) | (rw [if_neg (by decide +kernel)]; exact ⟨rfl, rfl⟩))
    (fun os started H enc _ F => by rw [OpenClaim.pre_eq_preRow]; exact lifted os started H enc F)
theorem plain (f : FuncId) (fn : Func) (hf : Tryd.pinned.checked.prog.funcNamed "paddock/paddocklaw18.TrackBooks" = some f) (hfn : Tryd.pinned.checked.prog.funcs[f]? = some fn) :
    false = Tryd.pinned.checked.prog.looks [] ∧ ∀ (j : Nat) t, fn.params[j]? = some t → Tryd.pinned.checked.prog.wantsStandIn t = false := by
  obtain rfl : f = 9 := Option.some.inj ((show Tryd.prog.funcNamed "paddock/paddocklaw18.TrackBooks" = some 9 by kernel_rfl).symm.trans hf) |>.symm
  obtain rfl : fn = Tryd.f9 := (Option.some.inj (Tryd.func9.symm.trans hfn)).symm
  refine ⟨by kernel_rfl, fun j t ht => ?_⟩
  rw [Tryd.params9] at ht
  have hm := Array.mem_of_getElem? ht
  simp at hm
  rcases hm with rfl | rfl
  · exact (show Tryd.prog.wantsStandIn 3 = false by kernel_rfl)
  · exact (show Tryd.prog.wantsStandIn 111 = false by kernel_rfl)
/-- The tied card of TrackBooks. -/
theorem card : Rows.TrackBooksCardSaid :=
  Claim7.holds_tied_plain_at .later [] _ _ _ _ said (fun _ h => by cases h) (by kernel_rfl) (fun _ h => by cases h) trackBooks_row_tie rfl ⟨rfl, rfl⟩ (by kernel_rfl) rfl plain (by kernel_rfl)
end trackBooks
end Go.Proofs.YtgoolkgjcmdilaaDoor
end
