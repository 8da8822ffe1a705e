/-
  LinkExact: for every room, every list of numbers and every script that hold together at most 1048576 values, each answer, the books behind each step, and what All told when it was taken are the document's; the list that was handed in is not kept (the tied card, upto the bound).
-/
import Derived.Test.YtiimmndhinoaiaaDoorLxH
import Derived.Test.YtiimmndhinoaiaaDoorCdK
import Derived.Test.YtiimmndhinoaiaaDoorCards
import Derived.Test.YtiimmndhinoaiaaDoorTie
namespace Go.Proofs.YtiimmndhinoaiaaDoor
open Go.RowKit Go.ChangeShapes Go.WideShapes Go.ChangeAt cardK
set_option linter.unusedVariables false
set_option linter.unusedSimpArgs false

namespace linkExact
theorem cells3 : Tryd.prog.cellsOf 3 = 1 := by kernel_rfl
theorem cells39 : Tryd.prog.cellsOf 39 = 3 := by kernel_rfl
theorem walk (w : World) (most : Int) (pb sp : Value) (L : List Int) (C : List Stp) (hC : RdS w sp 3 QStp C) (hCl : C.length ≤ 1048576) (hb : RdF w pb L.length 1 (ints L)) (hl : L.length ≤ 1048576) (hi : ∀ x ∈ L, I64 x) (hT : TB w) :
    Calls Tryd.prog 3 #[.int .i64 most, pb, sp] w fun e w' => e = .returned (.bool true) ∧ Fr [] w w' := by
  by_cases h1 : most < 1 ∨ 64 < most
  · exact exact_no w most pb sp L hb hl hi hT h1
  · obtain ⟨m, rfl⟩ : ∃ m : Nat, most = m := ⟨most.toNat, by omega⟩
    by_cases h2 : m < L.length
    · exact exact_full w m pb sp L hb hl hi hT (by omega) (by omega) h2
    · exact exact_ok w m pb sp L C hC hCl hb (by omega) hi hT (by omega) (by omega)
theorem flat_nums (l : List Int) : l.flatMap (fun a => [Value.int .i64 a]) = ints l := by
  unfold ints
  induction l with
  | nil => rfl
  | cons a l ih => rw [List.flatMap_cons, ih, List.map_cons]; rfl
theorem read_nums {W : World} {H : Type} {enc : TypeId × Value → H} {fuel : Nat} {v : Value} {x : DataW H × List MemPlace} (h : DataW.trod enc Tryd.prog W 0 (fun _ => true) true fuel 22 [v] = some x) :
    ∃ l : List Int, RdF W v l.length 1 (ints l) ∧ (∀ a ∈ l, I64 a) ∧ l.length ≤ Rows.uptoBulk x.1 := by
  obtain ⟨u, l, hu, hr, hl, _⟩ := read_sliceB Tryd.underlying22 (by rw [cells3]; decide) (fun cs (a : Int) => cs = [.int .i64 a] ∧ I64 a) (fun _ => 0) (fun n cs x hx => by
    obtain ⟨k, h0, hw⟩ := read_int Tryd.underlying3 hx
    exact ⟨k, ⟨h0, i64_of hw⟩, Nat.zero_le _⟩) h
  rw [cells3] at hr
  have hvu : v = u := by simpa using hu
  subst hvu
  have hrf := RdF.of_rds (fun a => [Value.int .i64 a]) (fun _ => rfl) (by decide) (fun cs a hq => hq.1) hr
  rw [flat_nums] at hrf
  refine ⟨l, hrf, fun a ha => ?_, hl⟩
  obtain ⟨p, cap, rfl, _, _, h0⟩ := hr
  obtain ⟨k, hk⟩ := List.mem_iff_getElem?.1 ha
  obtain ⟨hk1, e⟩ := List.getElem?_eq_some_iff.1 hk
  rcases h0 with h0 | ⟨g, o, rfl, h0⟩
  · omega
  · obtain ⟨cs, _, _, hq, hu⟩ := h0 k hk1
    rw [e] at hu
    exact hu
set_option maxRecDepth 100000 in
theorem read_steps {W : World} {H : Type} {enc : TypeId × Value → H} {fuel : Nat} {v : Value} {x : DataW H × List MemPlace} (h : DataW.trod enc Tryd.prog W 0 (fun _ => true) true fuel 23 [v] = some x) :
    ∃ C : List Stp, RdS W v 3 QStp C ∧ C.length ≤ Rows.uptoBulk x.1 := by
  obtain ⟨u, C, hu, hr, hl, _⟩ := read_sliceB Tryd.underlying23 (by rw [cells39]; decide) QStp (fun _ => 0) (fun n cs x hx => by
    obtain ⟨xs, m, _, _, hl, hlen, hf⟩ := DataW.trod_struct Tryd.underlying39 hx
    rw [cells39] at hl
    obtain ⟨c0, c1, c2, rfl⟩ := three_of hl
    obtain ⟨y0, y1, y2, rfl⟩ := three_of hlen
    obtain ⟨k0, h0, w0⟩ := read_int Tryd.underlying3 (hf 0 _ rfl)
    obtain ⟨k1, h1, w1⟩ := read_int Tryd.underlying3 (hf 1 _ rfl)
    obtain ⟨k2, h2, w2⟩ := read_int Tryd.underlying3 (hf 2 _ rfl)
    have q0 : [c0] = [Value.int .i64 k0] := h0
    have q1 : [c1] = [Value.int .i64 k1] := h1
    have q2 : [c2] = [Value.int .i64 k2] := h2
    cases q0; cases q1; cases q2
    exact ⟨⟨k0, k1, k2⟩, ⟨rfl, i64_of w1⟩, Nat.zero_le _⟩) h
  rw [cells39] at hr
  have hvu : v = u := by simpa using hu
  subst hvu
  exact ⟨C, hr, hl⟩
set_option maxRecDepth 100000 in
theorem contract (H : Type) (enc : TypeId × Value → H) (W : World) (base : Nat) (args : Array Value) (ds gs : List (DataW H)) (before : List MemPlace)
    (hval : ∀ (j : Nat) t v, Tryd.f3.params[j]? = some t → args[j]? = some v → Value.okWide Tryd.prog W .any base t v)
    (hW : DataW.Whole enc Tryd.prog Tryd.f3.params.toList Rows.linkExactSpec.vars false W args.toList ds gs before) (hL : laidMetH Tryd.prog laidL W) (hk : Rows.uptoSmall H (ds ++ gs) = true) :
    Calls Tryd.prog 3 args W fun e W' => ∃ v, e = .returned v ∧ Rows.linkExactSpec.post enc Tryd.prog Tryd.f3 false true false false W args v W' := by
  have hW' := hW
  obtain ⟨p, q, hA, hV, rfl, hfz, hnd⟩ := hW
  rw [Tryd.params3] at hA hval
  obtain ⟨v0, v1, v2, d0, d1, d2, p0, p1, p2, hargs, rfl, rfl, h0, h1, h2⟩ := trodAll_three hA
  obtain ⟨rfl, rfl⟩ := trodVars_none hV
  have : args = #[v0, v1, v2] := by simpa using hargs
  subst this
  have hbulk := bulks.bound hk
  obtain ⟨m, rfl, -⟩ := open_int Tryd.underlying3 (hval 0 3 v0 rfl rfl) h0
  obtain ⟨a1, l1, c1, rfl⟩ := okWide_slice Tryd.underlying22 (hval 1 22 v1 rfl rfl)
  obtain ⟨a2, l2, c2, rfl⟩ := okWide_slice Tryd.underlying23 (hval 2 23 v2 rfl rfl)
  obtain ⟨f1, hf1⟩ := h1
  obtain ⟨f2, hf2⟩ := h2
  obtain ⟨L, hL1, hL2, hL3⟩ := read_nums hf1
  obtain ⟨C, hC1, hC2⟩ := read_steps hf2
  dsimp only at hL3 hC2
  simp only [List.append_nil, Rows.uptoBulkAll] at hbulk
  refine (walk W m _ _ L C hC1 (by omega) hL1 (by omega) hL2 (tb_of hL)).mono fun e W' ⟨he, hg⟩ => ?_
  exact ⟨_, he, law_post (tb := 4) laidOut (by
    rw [Tryd.params3]; intro t ht; simp at ht
    rcases ht with rfl | rfl | rfl
    · exact ⟨by kernel_rfl, of_decide_eq_true (by kernel_rfl)⟩
    · exact ⟨by kernel_rfl, of_decide_eq_true (by kernel_rfl)⟩
    · exact ⟨by kernel_rfl, of_decide_eq_true (by kernel_rfl)⟩) rfl Tryd.underlying4 rfl hW' rfl hg⟩
theorem laid_met (os : Os) : laidMet Tryd.prog laidL ((laidWorld os).forCall (fun _ _ => 0) ⟨#[], #[.int .i64 0, .slice none 0 0, .slice none 0 0], []⟩).memory :=
  laidMet_of_run' 8 (by kernel_rfl) (by kernel_rfl)
theorem reads (os : Os) {H : Type} (enc : TypeId × Value → H) : ∃ places, DataW.whole enc Tryd.prog ((laidWorld os).forCall (fun _ _ => 0) ⟨#[], #[.int .i64 0, .slice none 0 0, .slice none 0 0], []⟩).memory Tryd.f3.params.toList Rows.linkExactSpec.vars false (#[.int .i64 0, .slice none 0 0, .slice none 0 0] : Array Value).toList 8 = some ([.lit (.int .i64 0), .nil, .nil], [], places) :=
  ⟨[], by kernel_rfl⟩
set_option maxRecDepth 100000 in
theorem liftedUpto (os : Os) (started : os.Started) (H : Type) (enc : TypeId × Value → H) (F : Stop.Interp) :
    ReturnsInHanded {} Tryd.checked os 3 .any ((Rows.OpenSpec.upto Rows.linkExactSpec).preRow enc Tryd.prog Tryd.f3 Rows.linkExactUptoRow.domain false Rows.linkExactUptoRow.laid) (((Rows.OpenSpec.upto Rows.linkExactSpec).at F).post enc Tryd.prog Tryd.f3 false true false false) := by
  obtain ⟨places, hx⟩ := reads os enc
  refine returnsInHanded_of_row (C := Tryd.checked) (s := Rows.OpenSpec.upto Rows.linkExactSpec) own started (by kernel_rfl) Tryd.func3
    (witness_row_at (enc := enc) (C := Tryd.checked) false (laidWorld os) #[.int .i64 0, .slice none 0 0, .slice none 0 0] rfl (by kernel_rfl) (by kernel_rfl) (by kernel_rfl)
      (OpenSpec.preRow_of_cond 8 hx (by kernel_rfl) (fun k hk => by cases hk; kernel_rfl) (by kernel_rfl) (laid_met os))) ?_
  intro W base args ds gs before hval hW _ hcond _ hL _ _
  exact contract H enc W base args ds gs before hval hW hL (hcond _ rfl)
theorem saidUpto : Rows.LinkExactUptoSaid :=
  OpenClaim.holds_of_cond 3 Tryd.f3 rfl rfl rfl rfl rfl rfl rfl ⟨rfl, rfl, rfl, rfl, rfl⟩ rfl rfl rfl rfl rfl (by kernel_rfl) Tryd.func3 (by kernel_rfl)
    (of_decide_eq_true (by kernel_rfl)) (by unfold Func.isWrapper; first | (rw [if_pos (by decide +kernel)]; kernel_rfl) | (rw [if_neg (by decide +kernel)]; exact ⟨rfl, rfl⟩))
    (fun os started H enc _ F => by rw [OpenClaim.pre_eq_preRow]; exact liftedUpto os started H enc F)
theorem plain (f : FuncId) (fn : Func) (hf : Tryd.pinned.checked.prog.funcNamed "paddock/paddocklaw24.LinkExact" = some f) (hfn : Tryd.pinned.checked.prog.funcs[f]? = some fn) :
    false = Tryd.pinned.checked.prog.looks [] ∧ ∀ (j : Nat) t, fn.params[j]? = some t → Tryd.pinned.checked.prog.wantsStandIn t = false := by
  obtain rfl : f = 3 := Option.some.inj ((show Tryd.prog.funcNamed "paddock/paddocklaw24.LinkExact" = some 3 by kernel_rfl).symm.trans hf) |>.symm
  obtain rfl : fn = Tryd.f3 := (Option.some.inj (Tryd.func3.symm.trans hfn)).symm
  refine ⟨by kernel_rfl, fun j t ht => ?_⟩
  rw [Tryd.params3] at ht
  have hm := Array.mem_of_getElem? ht
  simp at hm
  rcases hm with rfl | rfl | rfl
  · exact (show Tryd.prog.wantsStandIn 3 = false by kernel_rfl)
  · exact (show Tryd.prog.wantsStandIn 22 = false by kernel_rfl)
  · exact (show Tryd.prog.wantsStandIn 23 = false by kernel_rfl)
/-- The tied card of LinkExact, upto the bound. -/
theorem card : Rows.LinkExactUptoCardSaid :=
  Claim7.holds_tied_plain_at .later [] _ _ _ _ saidUpto (fun _ h => by cases h) (by kernel_rfl) (fun _ h => by cases h) linkExactUpto_row_tie rfl ⟨rfl, rfl⟩ (by kernel_rfl) rfl plain (by kernel_rfl)
#print axioms card
end linkExact
end Go.Proofs.YtiimmndhinoaiaaDoor
