/-
  TableWalks: for every list of numbers and of changes that hold together at most 1048576 values, going on by Next beside changes tells numbers that rise, and each that was there all the while (the tied card, upto the bound).
-/
import Derived.Test.YtgoolkgjcmdilaaDoorWalS
import Derived.Test.YtgoolkgjcmdilaaDoorBulk
import Derived.Test.YtgoolkgjcmdilaaDoorRead
import Derived.Test.YtgoolkgjcmdilaaDoorChecked
import Derived.Test.YtgoolkgjcmdilaaDoorCards
import Derived.Test.YtgoolkgjcmdilaaDoorTie
import Derived.JoinedCond
import Derived.Deep.DeepHandedRow
import Derived.Lib.LaidTab
namespace Go.Proofs.YtgoolkgjcmdilaaDoor
open Go.RowKit Go.ChangeShapes Go.WideShapes Go.ChangeAt
set_option linter.unusedVariables false
set_option linter.unusedSimpArgs false

theorem own : ownKnob Tryd.prog.godebug = none := by kernel_rfl
theorem laidOut : laidOutB Tryd.prog = true := by kernel_rfl
theorem gTab : Tryd.prog.globalNamed "math/bits.deBruijn64tab" = some 1 := by kernel_rfl
theorem gTabType : (Tryd.prog.globals[1]?).map (·.type) = some 228 := by kernel_rfl
theorem cells228 : Tryd.prog.cellsOf 228 = 64 := by kernel_rfl
theorem cells5 : Tryd.prog.cellsOf 5 = 1 := by kernel_rfl
theorem cells33 : Tryd.prog.cellsOf 33 = 1 := by kernel_rfl
theorem cells35 : Tryd.prog.cellsOf 35 = 1 := by kernel_rfl
theorem cells39 : Tryd.prog.cellsOf 39 = 2 := by kernel_rfl
def deBI : List Int := [0, 1, 56, 2, 57, 49, 28, 3, 61, 58, 42, 50, 38, 29, 17, 4, 62, 47, 59, 36, 45, 43, 51, 22, 53, 39, 33, 30, 24, 18, 12, 5, 63, 55, 48, 27, 60, 41, 37, 16, 46, 35, 44, 21, 52, 32, 23, 11, 54, 26, 40, 15, 34, 20, 31, 10, 25, 14, 19, 9, 13, 8, 7, 6]
theorem table {W : World} (h : laidMetH Tryd.prog [("math/bits.deBruijn64tab", Rows.laid_math_bits_deBruijn64tab)] W) : Lib.TabIs Tryd.prog W "math/bits.deBruijn64tab" .u8 deBI :=
  Lib.tabIs_of_head (rest := []) gTab gTabType Tryd.underlying228 Tryd.underlying5 cells5 cells228 h
theorem deB_all : (List.range 64).all (fun i => decide (deBI[i]? = some ((deB.getD i 0 : Nat) : Int))) = true := by decide +kernel
theorem deB_of {W : World} (h : laidMetH Tryd.prog [("math/bits.deBruijn64tab", Rows.laid_math_bits_deBruijn64tab)] W) : DeB W := fun i hi => by
  have h1 := (table h).cell gTab i hi
  have h2 := List.all_eq_true.1 deB_all i (List.mem_range.2 hi)
  have h3 : deBI[i]? = some ((deB.getD i 0 : Nat) : Int) := by simpa using h2
  rw [List.getD_eq_getElem?_getD, h3] at h1
  exact h1

/-! ### what is read, and how much it is -/
section
variable {P : Program} {w : World} {base : Nat} {spare : Nat → Bool} {held : Bool} {H : Type} {enc : TypeId × Value → H}
theorem sum_le {H : Type} (sz : Nat → Nat) (D : Nat → DataW H) : ∀ l : List Nat, (∀ i ∈ l, sz i ≤ Rows.uptoBulk (D i)) → (l.map sz).sum ≤ Rows.uptoBulkAll (l.map D)
  | [], _ => Nat.zero_le _
  | i :: l, h => by
    have h1 := h i (List.mem_cons_self ..)
    have h2 := sum_le sz D l (fun j hj => h j (List.mem_cons_of_mem _ hj))
    simp only [List.map_cons, List.sum_cons, Rows.uptoBulkAll]
    omega
theorem read_sliceB {α : Type} {t e : TypeId} {fuel : Nat} {cs : List Value} {x : DataW H × List MemPlace} (ht : P.underlying t = some (.slice e)) (hc : 0 < P.cellsOf e) (Q : List Value → α → Prop) (sz : α → Nat)
    (hel : ∀ n cs x, DataW.trod enc P w base spare held n e cs = some x → ∃ a, Q cs a ∧ sz a ≤ Rows.uptoBulk x.1) (h : DataW.trod enc P w base spare held fuel t cs = some x) :
    ∃ v ys, cs = [v] ∧ RdS w v (P.cellsOf e) Q ys ∧ ys.length ≤ Rows.uptoBulk x.1 ∧ (ys.map sz).sum ≤ Rows.uptoBulk x.1 := by
  rcases Deep.open_slice ht h with ⟨rfl, _⟩ | ⟨a, len, cap, m, n, D, Pl, rfl, hb, hl, hm, hmm, rfl, hx⟩
  · exact ⟨_, [], rfl, ⟨none, 0, rfl, Nat.le_refl _, by decide, .inl rfl⟩, Nat.zero_le _, Nat.zero_le _⟩
  · have hlm : len ≤ m := by rw [hmm]; split <;> omega
    have hx' : ∀ i, i < len → ∃ y : α × List Value, w.cells? base (a.add (i * P.cellsOf e)) (P.cellsOf e) = some y.2 ∧ Q y.2 y.1 ∧ sz y.1 ≤ Rows.uptoBulk (D i) := fun i hi => by
      obtain ⟨cs', h1, h2⟩ := hx i (by omega)
      obtain ⟨b, hb, hs⟩ := hel _ _ _ h2
      exact ⟨(b, cs'), h1, hb, hs⟩
    have hbl := bulks.slice_le ((List.range len).map D) ((List.range (m - len)).map fun j => D (len + j))
    have hbe := bulks.slice_elems ((List.range len).map D) ((List.range (m - len)).map fun j => D (len + j))
    simp only [List.length_map, List.length_range] at hbl
    by_cases h0 : len = 0
    · subst h0
      exact ⟨_, [], rfl, ⟨some a, cap, rfl, Nat.zero_le _, hm, .inl rfl⟩, Nat.zero_le _, Nat.zero_le _⟩
    · obtain ⟨y0, hy0⟩ := hx' 0 (by omega)
      haveI : Inhabited (α × List Value) := ⟨y0⟩
      obtain ⟨F, hF⟩ := Deep.choose_lt hx'
      have hsp : a = ⟨a.block, a.off, none⟩ := by
        obtain ⟨_, hl2, hg⟩ := World.cells?_some hy0.1
        have h2 := hg 0 hc
        rw [List.getElem?_eq_getElem (by omega)] at h2
        have h3 : w.cell? a = some y0.2[0] := by simpa [Addr.add] using h2
        exact addr_of_cell h3
      refine ⟨_, (List.range len).map fun i => (F i).1, rfl, ⟨some a, cap, by simp, by simpa using hl, hm, .inr ⟨a.block, a.off, by rw [← hsp], fun k hk => ?_⟩⟩, ?_, ?_⟩
      · have hk' : k < len := by simpa using hk
        obtain ⟨h1, h2, _⟩ := hF k hk'
        obtain ⟨_, hl2, hg⟩ := World.cells?_some h1
        refine ⟨(F k).2, hl2, fun j u hu => ?_, by simpa using h2⟩
        have hj : j < P.cellsOf e := by rw [← hl2]; exact (List.getElem?_eq_some_iff.1 hu).1
        have h3 := hg j hj
        rw [hu, Deep.add_add] at h3
        rw [hsp] at h3
        simpa [Addr.add_lit, Nat.add_assoc] using h3
      · simp only [List.length_map, List.length_range]
        omega
      · have := sum_le (fun i => sz (F i).1) D (List.range len) (fun i hi => (hF i (List.mem_range.1 hi)).2.2)
        rw [List.map_map]
        have e : (sz ∘ fun i => (F i).1) = fun i => sz (F i).1 := rfl
        rw [e]
        exact Nat.le_trans this (Nat.le_trans (Nat.le_succ _) hbe)
end
theorem u32_of {n : Int} (h : (Lit.int .u32 n).wf = true) : U32 n := by
  exact bounds_u32 h
theorem two_of {α : Type} {l : List α} (h : l.length = 2) : ∃ a b, l = [a, b] := by
  match l, h with
  | [a, b], _ => exact ⟨a, b, rfl⟩
theorem read_ids {W : World} {H : Type} {enc : TypeId × Value → H} {fuel : Nat} {v : Value} {x : DataW H × List MemPlace} (h : DataW.trod enc Tryd.prog W 0 (fun _ => true) true fuel 22 [v] = some x) :
    ∃ ids : List Int, Rd W v (u32s ids) ∧ (∀ a ∈ ids, U32 a) ∧ ids.length ≤ Rows.uptoBulk x.1 := by
  obtain ⟨u, ids, hu, hr, hl, _⟩ := read_sliceB Tryd.underlying22 (by rw [cells33]; decide) (fun cs (a : Int) => cs = [.int .u32 a] ∧ U32 a) (fun _ => 0) (fun n cs x hx => by
    obtain ⟨k, h0, hw⟩ := read_int Tryd.underlying33 hx
    exact ⟨k, ⟨h0, u32_of hw⟩, Nat.zero_le _⟩) h
  rw [cells33] at hr
  have hvu : v = u := by simpa using hu
  subst hvu
  obtain ⟨p, cap, rfl, hc, _, h0⟩ := hr
  refine ⟨ids, ⟨p, cap, by rw [u32s_len], by rw [u32s_len]; exact hc, ?_⟩, fun a ha => ?_, hl⟩
  · rcases h0 with h0 | ⟨g, o, rfl, h0⟩
    · exact .inl (by rw [u32s_len]; exact h0)
    · refine .inr ⟨g, o, rfl, fun k y hy => ?_⟩
      have hk : k < ids.length := by have := (List.getElem?_eq_some_iff.1 hy).1; rwa [u32s_len] at this
      obtain ⟨cs, _, hcs, hq, _⟩ := h0 k hk
      have hy2 : y = .int .u32 ids[k] := by
        rw [u32s_get (List.getElem?_eq_getElem hk)] at hy
        exact (Option.some.inj hy).symm
      have := hcs 0 _ (by rw [hq]; rfl)
      rw [hy2]
      simpa using this
  · obtain ⟨k, hk⟩ := List.mem_iff_getElem?.1 ha
    obtain ⟨hk1, e⟩ := List.getElem?_eq_some_iff.1 hk
    rcases h0 with h0 | ⟨g, o, rfl, h0⟩
    · omega
    · obtain ⟨cs, _, _, hq, hu⟩ := h0 k hk1
      rw [e] at hu
      exact hu
set_option maxRecDepth 100000 in
theorem read_C {W : World} {H : Type} {enc : TypeId × Value → H} {fuel : Nat} {cs : List Value} {x : DataW H × List MemPlace} (h : DataW.trod enc Tryd.prog W 0 (fun _ => true) true fuel 35 cs = some x) :
    ∃ (C : List Cg), (∃ v, cs = [v] ∧ RdC W v C ∧ ∀ c ∈ C, U32 c.1) ∧ C.length ≤ Rows.uptoBulk x.1 := by
  obtain ⟨u, C, hu, hr, hl, _⟩ := read_sliceB Tryd.underlying35 (by rw [cells39]; decide) (fun cs (c : Cg) => cs = [.int .u32 c.1, .bool c.2] ∧ U32 c.1) (fun _ => 0) (fun n cs x hx => by
    obtain ⟨xs, m, _, _, hl, hlen, hf⟩ := DataW.trod_struct Tryd.underlying39 hx
    rw [cells39] at hl
    obtain ⟨c0, c1, rfl⟩ := two_of hl
    obtain ⟨y0, y1, rfl⟩ := two_of hlen
    obtain ⟨k, h0, hw⟩ := read_int Tryd.underlying33 (hf 0 _ rfl)
    obtain ⟨b, h1⟩ := read_bool Tryd.underlying4 (hf 1 _ rfl)
    have q0 : [c0] = [Value.int .u32 k] := h0
    have q1 : [c1] = [Value.bool b] := h1
    cases q0; cases q1
    exact ⟨(k, b), ⟨rfl, u32_of hw⟩, Nat.zero_le _⟩) h
  rw [cells39] at hr
  obtain ⟨p, cap, rfl, _, _, h0⟩ := hr
  refine ⟨C, ⟨_, hu, ⟨p, cap, rfl, ?_⟩, fun c hc => ?_⟩, hl⟩
  · rcases h0 with h0 | ⟨g, o, rfl, h0⟩
    · exact .inl h0
    · refine .inr ⟨g, o, rfl, fun j c hj => ?_⟩
      obtain ⟨hk, e⟩ := List.getElem?_eq_some_iff.1 hj
      obtain ⟨cs, _, hcs, hq, _⟩ := h0 j hk
      rw [e] at hq
      have a0 := hcs 0 (.int .u32 c.1) (by rw [hq]; rfl)
      have a1 := hcs 1 (.bool c.2) (by rw [hq]; rfl)
      exact ⟨by simpa using a0, a1⟩
  · obtain ⟨k, hk⟩ := List.mem_iff_getElem?.1 hc
    obtain ⟨hk1, e⟩ := List.getElem?_eq_some_iff.1 hk
    rcases h0 with h0 | ⟨g, o, rfl, h0⟩
    · omega
    · obtain ⟨cs, _, _, hq, hu⟩ := h0 k hk1
      rw [e] at hu
      exact hu
theorem read_Cs {W : World} {H : Type} {enc : TypeId × Value → H} {fuel : Nat} {v : Value} {x : DataW H × List MemPlace} (h : DataW.trod enc Tryd.prog W 0 (fun _ => true) true fuel 23 [v] = some x) :
    ∃ Cs : List (List Cg), RdCs W v Cs ∧ (∀ C ∈ Cs, ∀ c ∈ C, U32 c.1) ∧ Cs.length ≤ Rows.uptoBulk x.1 ∧ total Cs ≤ Rows.uptoBulk x.1 := by
  obtain ⟨u, Cs, hu, hr, hl, ht⟩ := read_sliceB Tryd.underlying23 (by rw [cells35]; decide) (fun cs (C : List Cg) => ∃ v, cs = [v] ∧ RdC W v C ∧ ∀ c ∈ C, U32 c.1) List.length (fun n cs x hx => by
    obtain ⟨C, h1, h2⟩ := read_C hx
    exact ⟨C, h1, h2⟩) h
  rw [cells35] at hr
  have hvu : v = u := by simpa using hu
  subst hvu
  obtain ⟨p, cap, rfl, _, _, h0⟩ := hr
  refine ⟨Cs, ⟨p, cap, rfl, ?_⟩, fun C hC => ?_, hl, ht⟩
  · rcases h0 with h0 | ⟨g, o, rfl, h0⟩
    · exact .inl h0
    · refine .inr ⟨g, o, rfl, fun j C hj => ?_⟩
      obtain ⟨hk, e⟩ := List.getElem?_eq_some_iff.1 hj
      obtain ⟨cs, _, hcs, v, hq, hv, _⟩ := h0 j hk
      rw [e] at hv
      have a0 := hcs 0 v (by rw [hq]; rfl)
      exact ⟨v, by simpa using a0, hv⟩
  · obtain ⟨k, hk⟩ := List.mem_iff_getElem?.1 hC
    obtain ⟨hk1, e⟩ := List.getElem?_eq_some_iff.1 hk
    rcases h0 with h0 | ⟨g, o, rfl, h0⟩
    · omega
    · obtain ⟨cs, _, _, v, _, _, hu⟩ := h0 k hk1
      rw [e] at hu
      exact hu

namespace tableWalks
set_option maxRecDepth 100000 in
theorem contract (H : Type) (enc : TypeId × Value → H) (W : World) (base : Nat) (args : Array Value) (ds gs : List (DataW H)) (before : List MemPlace)
    (hval : ∀ (j : Nat) t v, Tryd.f3.params[j]? = some t → args[j]? = some v → Value.okWide Tryd.prog W .any base t v)
    (hW : DataW.Whole enc Tryd.prog Tryd.f3.params.toList Rows.tableWalksSpec.vars false W args.toList ds gs before) (hL : laidMetH Tryd.prog Rows.tableWalksUptoRow.laid W) (hk : Rows.uptoSmall H (ds ++ gs) = true) :
    Calls Tryd.prog 3 args W fun e W' => ∃ v, e = .returned v ∧ Rows.tableWalksSpec.post enc Tryd.prog Tryd.f3 false true false false W args v W' := by
  have hW' := hW
  obtain ⟨p, q, hA, hV, rfl, hfz, hnd⟩ := hW
  rw [Tryd.params3] at hA hval
  obtain ⟨v0, v1, d0, d1, p0, p1, hargs, rfl, rfl, h0, h1⟩ := trodAll_two hA
  obtain ⟨rfl, rfl⟩ := trodVars_none hV
  have : args = #[v0, v1] := by simpa using hargs
  subst this
  have hbulk := bulks.bound hk
  obtain ⟨a0, l0, c0, rfl⟩ := okWide_slice Tryd.underlying22 (hval 0 22 v0 rfl rfl)
  obtain ⟨a1, l1, c1, rfl⟩ := okWide_slice Tryd.underlying23 (hval 1 23 v1 rfl rfl)
  obtain ⟨f0, hf0⟩ := h0
  obtain ⟨f1, hf1⟩ := h1
  obtain ⟨ids, hi1, hi2, hi3⟩ := read_ids hf0
  obtain ⟨Cs, hc1, hc2, hc3, hc4⟩ := read_Cs hf1
  dsimp only at hi3 hc3 hc4
  simp only [List.append_nil, Rows.uptoBulkAll] at hbulk
  refine (walk W _ _ ids Cs hi1 hi2 hc1 hc2 (deB_of hL) (by omega) (by omega) (by omega)).mono fun e W' ⟨he, hg⟩ => ?_
  exact ⟨_, he, law_post (tb := 4) laidOut (by
    rw [Tryd.params3]; intro t ht; simp at ht
    rcases ht with rfl | rfl
    · exact ⟨by kernel_rfl, of_decide_eq_true (by kernel_rfl)⟩
    · exact ⟨by kernel_rfl, of_decide_eq_true (by kernel_rfl)⟩) rfl Tryd.underlying4 rfl hW' rfl hg⟩

/-- A world for the witness: the settled one, the table in its block. -/
noncomputable def laidWorld (os : Os) : World :=
  { World.holding Tryd.prog os ⟨#[], #[], []⟩ with heap := (World.holding Tryd.prog os ⟨#[], #[], []⟩).heap.modify 1 fun
      | .cells _ t frozen => .cells (deBI.map fun z => Value.int .u8 z).toArray t frozen
      | o => o }
theorem laid_met (os : Os) : laidMet Tryd.prog Rows.tableWalksUptoRow.laid ((laidWorld os).forCall (fun _ _ => 0) ⟨#[], #[.slice none 0 0, .slice none 0 0], []⟩).memory :=
  laidMet_of_run' 8 (by kernel_rfl) (by kernel_rfl)
theorem reads (os : Os) {H : Type} (enc : TypeId × Value → H) : ∃ places, DataW.whole enc Tryd.prog ((laidWorld os).forCall (fun _ _ => 0) ⟨#[], #[.slice none 0 0, .slice none 0 0], []⟩).memory Tryd.f3.params.toList Rows.tableWalksSpec.vars false #[Value.slice none 0 0, Value.slice none 0 0].toList 8 = some ([.nil, .nil], [], places) :=
  ⟨[], by kernel_rfl⟩
set_option maxRecDepth 100000 in
theorem liftedUpto (os : Os) (started : os.Started) (H : Type) (enc : TypeId × Value → H) (F : Stop.Interp) :
    ReturnsInHanded {} Tryd.checked os 3 .any ((Rows.OpenSpec.upto Rows.tableWalksSpec).preRow enc Tryd.prog Tryd.f3 Rows.tableWalksUptoRow.domain false Rows.tableWalksUptoRow.laid) (((Rows.OpenSpec.upto Rows.tableWalksSpec).at F).post enc Tryd.prog Tryd.f3 false true false false) := by
  obtain ⟨places, hx⟩ := reads os enc
  refine returnsInHanded_of_row (C := Tryd.checked) (s := Rows.OpenSpec.upto Rows.tableWalksSpec) own started (by kernel_rfl) Tryd.func3
    (witness_row_at (enc := enc) (C := Tryd.checked) false (laidWorld os) #[.slice none 0 0, .slice none 0 0] rfl (by kernel_rfl) (by kernel_rfl) (by kernel_rfl)
      (OpenSpec.preRow_of_cond 8 hx (by kernel_rfl) (fun k hk => by cases hk; kernel_rfl) (by kernel_rfl) (laid_met os))) ?_
  intro W base args ds gs before hval hW _ hcond _ hL _ _
  exact contract H enc W base args ds gs before hval hW hL (hcond _ rfl)
theorem saidUpto : Rows.TableWalksUptoSaid :=
  OpenClaim.holds_of_cond 3 Tryd.f3 rfl rfl rfl rfl rfl rfl rfl ⟨rfl, rfl, rfl, rfl, rfl⟩ rfl rfl rfl rfl rfl (by kernel_rfl) Tryd.func3 (by kernel_rfl)
    (of_decide_eq_true (by kernel_rfl)) (by unfold Func.isWrapper; first | (rw [if_pos (by decide +kernel)]; kernel_rfl) | (rw [if_neg (by decide +kernel)]; exact ⟨rfl, rfl⟩))
    (fun os started H enc _ F => by rw [OpenClaim.pre_eq_preRow]; exact liftedUpto os started H enc F)
theorem plain (f : FuncId) (fn : Func) (hf : Tryd.pinned.checked.prog.funcNamed "paddock/paddocklaw17.TableWalks" = some f) (hfn : Tryd.pinned.checked.prog.funcs[f]? = some fn) :
    false = Tryd.pinned.checked.prog.looks [] ∧ ∀ (j : Nat) t, fn.params[j]? = some t → Tryd.pinned.checked.prog.wantsStandIn t = false := by
  obtain rfl : f = 3 := Option.some.inj ((show Tryd.prog.funcNamed "paddock/paddocklaw17.TableWalks" = some 3 by kernel_rfl).symm.trans hf) |>.symm
  obtain rfl : fn = Tryd.f3 := (Option.some.inj (Tryd.func3.symm.trans hfn)).symm
  refine ⟨by kernel_rfl, fun j t ht => ?_⟩
  rw [Tryd.params3] at ht
  have hm := Array.mem_of_getElem? ht
  simp at hm
  rcases hm with rfl | rfl
  · exact (show Tryd.prog.wantsStandIn 22 = false by kernel_rfl)
  · exact (show Tryd.prog.wantsStandIn 23 = false by kernel_rfl)
/-- The tied card of TableWalks, upto the bound. -/
theorem card : Rows.TableWalksUptoCardSaid :=
  Claim7.holds_tied_plain_at .later [] _ _ _ _ saidUpto (fun _ h => by cases h) (by kernel_rfl) (fun _ h => by cases h) tableWalksUpto_row_tie rfl ⟨rfl, rfl⟩ (by kernel_rfl) rfl plain (by kernel_rfl)
#print axioms card
end tableWalks
end Go.Proofs.YtgoolkgjcmdilaaDoor
