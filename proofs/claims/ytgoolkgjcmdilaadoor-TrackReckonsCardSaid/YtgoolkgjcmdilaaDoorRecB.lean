/-
  TrackReckons: for every speed, move and way the speed behind the move, the length of the way and the heading are the document's (the tied card).
-/
import Derived.Test.YtgoolkgjcmdilaaDoorRecA
import Derived.Test.YtgoolkgjcmdilaaDoorCardT
import Derived.Test.YtgoolkgjcmdilaaDoorCards
import Derived.Test.YtgoolkgjcmdilaaDoorTie
namespace Go.Proofs.YtgoolkgjcmdilaaDoor
open Go.RowKit Go.ChangeShapes Go.WideShapes Go.ChangeAt cardK cardT
set_option linter.unusedVariables false
set_option linter.unusedSimpArgs false

namespace trackReckons
theorem bytes98 : Tryd.prog.bytesOf 98 = 8 := by kernel_rfl
theorem rds_bounds {W : World} {v : Value} {l : List (Int × Int)} (h : RdS W v 2 PtQ l) : ∀ p ∈ l, I32 p.1 ∧ I32 p.2 := by
  obtain ⟨p, cap, rfl, _, _, h0⟩ := h
  intro q hq
  obtain ⟨k, hk⟩ := List.mem_iff_getElem?.1 hq
  obtain ⟨hk1, e⟩ := List.getElem?_eq_some_iff.1 hk
  rcases h0 with h0 | ⟨g, o, rfl, h0⟩
  · omega
  · obtain ⟨cs, _, _, h3⟩ := h0 k hk1
    rw [e] at h3
    exact h3.2
set_option maxRecDepth 100000 in
theorem contract (H : Type) (enc : TypeId × Value → H) (W : World) (base : Nat) (args : Array Value) (ds gs : List (DataW H)) (before : List MemPlace)
    (hval : ∀ (j : Nat) t v, Tryd.f8.params[j]? = some t → args[j]? = some v → Value.okWide Tryd.prog W .any base t v)
    (hW : DataW.Whole enc Tryd.prog Tryd.f8.params.toList Rows.trackReckonsSpec.vars false W args.toList ds gs before) (hsz : (DataW.weightsEach Tryd.prog (Tryd.f8.params.toList ++ (OpenSpec.ofChange Rows.trackReckonsSpec).bare.plain.varTypes Tryd.prog) (ds ++ gs)).all (· ≤ reachBytes) = true) (hL : laidMetH Tryd.prog laidL W) :
    Calls Tryd.prog 8 args W fun e W' => ∃ v, e = .returned v ∧ Rows.trackReckonsSpec.post enc Tryd.prog Tryd.f8 false true false false W args v W' := by
  have hW' := hW
  obtain ⟨p, q, hA, hV, rfl, hfz, hnd⟩ := hW
  rw [Tryd.params8] at hA hval hsz
  obtain ⟨v0, d0, hargs, rfl, h0⟩ := trodAll_one hA
  obtain ⟨rfl, rfl⟩ := trodVars_none hV
  have : args = #[v0] := by simpa using hargs
  subst this
  obtain ⟨f0, cs0, rfl, hf0⟩ := open_agg Tryd.underlying101 (hval 0 101 v0 rfl rfl) h0
  obtain ⟨o, px, py, qx, qy, t0, t, v, l, rfl, b1, b2, b3, b4, -, -, k3, -, -, k6, hl, parts, d5, hp, hp5, hd5⟩ := read_ask hf0
  dsimp only at hp
  subst hp
  have hlen := sized_len (sized_agg hsz (j := 0) (t := 101) rfl rfl Tryd.underlying101) (j := 5) (t := 99) (e := 98) (d := d5) rfl hp5 Tryd.underlying99
  rw [hd5, bytes98] at hlen
  have hw : PtS W v l := ⟨RdF.of_rds encP encP_len (by decide) (fun cs a h => h.1) hl, rds_bounds hl⟩
  refine (reckons_walk W (deB_of hL) o px py qx qy t0 t v l b1 b2 b3 b4 k3 k6 hw (by omega)).mono fun e W' ⟨he, hg⟩ => ?_
  exact ⟨_, he, law_post (tb := 4) laidOut (by
    rw [Tryd.params8]; intro t ht; simp at ht
    subst ht
    exact ⟨by kernel_rfl, of_decide_eq_true (by kernel_rfl)⟩) rfl Tryd.underlying4 rfl hW' rfl hg⟩
theorem laid_met (os : Os) : laidMet Tryd.prog laidL ((laidWorld os).forCall (fun _ _ => 0) ⟨#[], #[.agg #[.int .u64 0, .int .i32 0, .int .i32 0, .int .i32 0, .int .i32 0, .int .u32 0, .int .u32 0, .slice none 0 0]], []⟩).memory :=
  laidMet_of_run' 8 (by kernel_rfl) (by kernel_rfl)
theorem reads (os : Os) {H : Type} (enc : TypeId × Value → H) : ∃ places, DataW.whole enc Tryd.prog ((laidWorld os).forCall (fun _ _ => 0) ⟨#[], #[.agg #[.int .u64 0, .int .i32 0, .int .i32 0, .int .i32 0, .int .i32 0, .int .u32 0, .int .u32 0, .slice none 0 0]], []⟩).memory Tryd.f8.params.toList Rows.trackReckonsSpec.vars false (#[.agg #[.int .u64 0, .int .i32 0, .int .i32 0, .int .i32 0, .int .i32 0, .int .u32 0, .int .u32 0, .slice none 0 0]] : Array Value).toList 8 = some ([.agg [.lit (.int .u64 0), .agg [.lit (.int .i32 0), .lit (.int .i32 0)], .agg [.lit (.int .i32 0), .lit (.int .i32 0)], .lit (.int .u32 0), .lit (.int .u32 0), .nil]], [], places) :=
  ⟨[], by kernel_rfl⟩
set_option maxRecDepth 100000 in
theorem lifted (os : Os) (started : os.Started) (H : Type) (enc : TypeId × Value → H) (F : Stop.Interp) :
    ReturnsInHanded {} Tryd.checked os 8 .any ((OpenSpec.ofChange Rows.trackReckonsSpec).preRow enc Tryd.prog Tryd.f8 Rows.trackReckonsRow.domain false Rows.trackReckonsRow.laid) (((OpenSpec.ofChange Rows.trackReckonsSpec).at F).post enc Tryd.prog Tryd.f8 false true false false) := by
  obtain ⟨places, hx⟩ := reads os enc
  refine returnsInHanded_of_row (C := Tryd.checked) (s := OpenSpec.ofChange Rows.trackReckonsSpec) own started (by kernel_rfl) Tryd.func8
    (witness_row_at (enc := enc) (C := Tryd.checked) false (laidWorld os) #[.agg #[.int .u64 0, .int .i32 0, .int .i32 0, .int .i32 0, .int .i32 0, .int .u32 0, .int .u32 0, .slice none 0 0]] rfl (by kernel_rfl) (by kernel_rfl) (by kernel_rfl)
      (OpenSpec.preRow_of_cond 8 hx (by kernel_rfl) (fun k hk => by cases hk) (by kernel_rfl) (laid_met os))) ?_
  intro W base args ds gs before hval hW _ _ hsz hL _ _
  exact contract H enc W base args ds gs before hval hW hsz hL
theorem said : Rows.TrackReckonsSaid :=
  OpenClaim.holds_of_cond 8 Tryd.f8 rfl rfl rfl rfl rfl rfl rfl ⟨rfl, rfl, rfl, rfl, rfl⟩ rfl rfl rfl rfl rfl (by kernel_rfl) Tryd.func8 (by kernel_rfl)
    (of_decide_eq_true (by kernel_rfl)) (by unfold Func.isWrapper; first | (rw [if_pos (by decide +kernel)]; kernel_rfl) | (rw [if_neg (by decide +kernel)]; exact ⟨rfl, rfl⟩))
    (fun os started H enc _ F => by rw [OpenClaim.pre_eq_preRow]; exact lifted os started H enc F)
theorem plain (f : FuncId) (fn : Func) (hf : Tryd.pinned.checked.prog.funcNamed "paddock/paddocklaw18.TrackReckons" = some f) (hfn : Tryd.pinned.checked.prog.funcs[f]? = some fn) :
    false = Tryd.pinned.checked.prog.looks [] ∧ ∀ (j : Nat) t, fn.params[j]? = some t → Tryd.pinned.checked.prog.wantsStandIn t = false := by
  obtain rfl : f = 8 := Option.some.inj ((show Tryd.prog.funcNamed "paddock/paddocklaw18.TrackReckons" = some 8 by kernel_rfl).symm.trans hf) |>.symm
  obtain rfl : fn = Tryd.f8 := (Option.some.inj (Tryd.func8.symm.trans hfn)).symm
  refine ⟨by kernel_rfl, fun j t ht => ?_⟩
  rw [Tryd.params8] at ht
  have hm := Array.mem_of_getElem? ht
  simp at hm
  subst hm
  exact (show Tryd.prog.wantsStandIn 101 = false by kernel_rfl)
/-- The tied card of TrackReckons. -/
theorem card : Rows.TrackReckonsCardSaid :=
  Claim7.holds_tied_plain_at .later [] _ _ _ _ said (fun _ h => by cases h) (by kernel_rfl) (fun _ h => by cases h) trackReckons_row_tie rfl ⟨rfl, rfl⟩ (by kernel_rfl) rfl plain (by kernel_rfl)
#print axioms card
end trackReckons
end Go.Proofs.YtgoolkgjcmdilaaDoor
