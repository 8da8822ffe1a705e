/-
  TableBits: for every three bounds and every script of steps, each answer of each call on the three sets is the document's, a walk that was taken half way tells what there was then, and nil and zero sets answer nothing (the tied card).
-/
import Derived.Test.YtgoolkgjcmdilaaDoorBiN
import Derived.Test.YtgoolkgjcmdilaaDoorCardK
import Derived.Test.YtgoolkgjcmdilaaDoorCards
import Derived.Test.YtgoolkgjcmdilaaDoorTie
namespace Go.Proofs.YtgoolkgjcmdilaaDoor
open Go.RowKit Go.ChangeShapes Go.WideShapes Go.ChangeAt cardK
set_option linter.unusedVariables false
set_option linter.unusedSimpArgs false

namespace tableBits
theorem cells70 : Tryd.prog.cellsOf 70 = 3 := by kernel_rfl
theorem cells3 : Tryd.prog.cellsOf 3 = 1 := by kernel_rfl
theorem cells86 : Tryd.prog.cellsOf 86 = 4 := by kernel_rfl
theorem bytes86 : Tryd.prog.bytesOf 86 = 32 := by kernel_rfl
theorem four_of {α : Type} {l : List α} (h : l.length = 4) : ∃ a b c d, l = [a, b, c, d] := by
  match l, h with
  | [a, b, c, d], _ => exact ⟨a, b, c, d, rfl⟩
set_option maxRecDepth 100000 in
theorem read_steps {W : World} {H : Type} {enc : TypeId × Value → H} {fuel : Nat} {v : Value} {x : DataW H × List MemPlace} (h : DataW.trod enc Tryd.prog W 0 (fun _ => true) true fuel 71 [v] = some x) :
    ∃ l : List Btt, RdBt W v l ∧ dlen x.1 = l.length := by
  obtain ⟨u, l, hu, hr, hd⟩ := read_list Tryd.underlying71 (by rw [cells86]; decide) (fun cs (s : Btt) => cs = [.int .i64 s.do, .int .i64 s.on, .int .i64 s.wi, .int .i64 s.i]) (fun n cs x hx => by
    obtain ⟨xs, m, _, _, hl, hlen, hf⟩ := DataW.trod_struct Tryd.underlying86 hx
    rw [cells86] at hl
    obtain ⟨c0, c1, c2, c3, rfl⟩ := four_of hl
    obtain ⟨y0, y1, y2, y3, rfl⟩ := four_of hlen
    obtain ⟨d, h0, _⟩ := read_int Tryd.underlying3 (hf 0 _ rfl)
    obtain ⟨o, h1, _⟩ := read_int Tryd.underlying3 (hf 1 _ rfl)
    obtain ⟨i, h2, _⟩ := read_int Tryd.underlying3 (hf 2 _ rfl)
    obtain ⟨n, h3, _⟩ := read_int Tryd.underlying3 (hf 3 _ rfl)
    have q0 : [c0] = [Value.int .i64 d] := h0
    have q1 : [c1] = [Value.int .i64 o] := h1
    have q2 : [c2] = [Value.int .i64 i] := h2
    have q3 : [c3] = [Value.int .i64 n] := h3
    cases q0; cases q1; cases q2; cases q3
    exact ⟨⟨d, o, i, n⟩, rfl⟩) h
  rw [cells86] at hr
  have hvu : v = u := by simpa using hu
  subst hvu
  obtain ⟨p, cap, rfl, _, _, h0⟩ := hr
  refine ⟨l, ⟨p, cap, rfl, ?_⟩, hd⟩
  rcases h0 with h0 | ⟨g, o, rfl, h0⟩
  · exact .inl h0
  · refine .inr ⟨g, o, rfl, fun j s hj => ?_⟩
    obtain ⟨hk, e⟩ := List.getElem?_eq_some_iff.1 hj
    obtain ⟨cs, _, hcs, hq⟩ := h0 j hk
    rw [e] at hq
    refine ⟨?_, hcs 1 _ (by rw [hq]; rfl), hcs 2 _ (by rw [hq]; rfl), hcs 3 _ (by rw [hq]; rfl)⟩
    simpa using hcs 0 _ (by rw [hq]; rfl)
set_option maxRecDepth 100000 in
theorem read_rooms {W : World} {H : Type} {enc : TypeId × Value → H} {fuel : Nat} {cs : List Value} {x : DataW H × List MemPlace} (h : DataW.trod enc Tryd.prog W 0 (fun _ => true) true fuel 70 cs = some x) : ∃ r0 r1 r2 : Int, cs = [.int .i64 r0, .int .i64 r1, .int .i64 r2] := by
  obtain ⟨xs, m, _, _, hl, hlen, hf⟩ := DataW.trod_array Tryd.underlying70 h
  rw [cells70] at hl
  obtain ⟨c0, c1, c2, rfl⟩ := three_of hl
  obtain ⟨y0, y1, y2, rfl⟩ := three_of hlen
  have h0 := hf 0 (by decide)
  have h1 := hf 1 (by decide)
  have h2 := hf 2 (by decide)
  rw [cells3] at h0 h1 h2
  obtain ⟨a, q0, _⟩ := read_int Tryd.underlying3 (x := y0) (by simpa using h0)
  obtain ⟨b, q1, _⟩ := read_int Tryd.underlying3 (x := y1) (by simpa using h1)
  obtain ⟨c, q2, _⟩ := read_int Tryd.underlying3 (x := y2) (by simpa using h2)
  cases q0; cases q1; cases q2
  exact ⟨a, b, c, rfl⟩
set_option maxRecDepth 100000 in
theorem open_rooms {W : World} {H : Type} {enc : TypeId × Value → H} {v : Value} {d : DataW H} {p : List MemPlace} (hv : Value.okWide Tryd.prog W .any 0 70 v) (h : DataW.Trod enc Tryd.prog W 0 (fun _ => true) true 70 v d p) : ∃ r0 r1 r2 : Int, v = .agg #[.int .i64 r0, .int .i64 r1, .int .i64 r2] := by
  simp only [Value.okWide, Tryd.underlying70] at hv
  obtain ⟨cs, rfl, _⟩ := hv
  obtain ⟨fuel, hf⟩ := h
  obtain ⟨r0, r1, r2, he⟩ := read_rooms (cs := cs.toList) hf
  exact ⟨r0, r1, r2, by rw [← he]⟩
set_option maxRecDepth 100000 in
theorem contract (H : Type) (enc : TypeId × Value → H) (W : World) (base : Nat) (args : Array Value) (ds gs : List (DataW H)) (before : List MemPlace)
    (hval : ∀ (j : Nat) t v, Tryd.f5.params[j]? = some t → args[j]? = some v → Value.okWide Tryd.prog W .any base t v)
    (hW : DataW.Whole enc Tryd.prog Tryd.f5.params.toList Rows.tableBitsSpec.vars false W args.toList ds gs before) (hsz : (DataW.weightsEach Tryd.prog (Tryd.f5.params.toList ++ (OpenSpec.ofChange Rows.tableBitsSpec).bare.plain.varTypes Tryd.prog) (ds ++ gs)).all (· ≤ reachBytes) = true) (hL : laidMetH Tryd.prog laidL W) :
    Calls Tryd.prog 5 args W fun e W' => ∃ v, e = .returned v ∧ Rows.tableBitsSpec.post enc Tryd.prog Tryd.f5 false true false false W args v W' := by
  have hW' := hW
  obtain ⟨p, q, hA, hV, rfl, hfz, hnd⟩ := hW
  rw [Tryd.params5] at hA hval hsz
  obtain ⟨v0, v1, d0, d1, p0, p1, hargs, rfl, rfl, h0, h1⟩ := trodAll_two hA
  obtain ⟨rfl, rfl⟩ := trodVars_none hV
  have : args = #[v0, v1] := by simpa using hargs
  subst this
  obtain ⟨r0, r1, r2, rfl⟩ := open_rooms (hval 0 70 v0 rfl rfl) h0
  obtain ⟨a1, l1, c1, rfl⟩ := okWide_slice Tryd.underlying71 (hval 1 71 v1 rfl rfl)
  obtain ⟨f1, hf1⟩ := h1
  obtain ⟨l, hl1, hl3⟩ := read_steps hf1
  dsimp only at hl3
  have hlen := sized_len hsz (j := 1) (t := 71) (e := 86) (d := d1) rfl rfl Tryd.underlying71
  rw [hl3, bytes86] at hlen
  refine (bits_walk W (fun k => if k = 0 then r0 else if k = 1 then r1 else r2) _ l (deB_of hL) hl1 (by omega)).mono fun e W' ⟨he, hg⟩ => ?_
  exact ⟨_, he, law_post (tb := 4) laidOut (by
    rw [Tryd.params5]; intro t ht; simp at ht
    rcases ht with rfl | rfl
    · exact ⟨by kernel_rfl, of_decide_eq_true (by kernel_rfl)⟩
    · exact ⟨by kernel_rfl, of_decide_eq_true (by kernel_rfl)⟩) rfl Tryd.underlying4 rfl hW' rfl hg⟩
abbrev arg0 : Value := .agg #[.int .i64 0, .int .i64 0, .int .i64 0]
theorem laid_met (os : Os) : laidMet Tryd.prog laidL ((laidWorld os).forCall (fun _ _ => 0) ⟨#[], #[arg0, .slice none 0 0], []⟩).memory :=
  laidMet_of_run' 8 (by kernel_rfl) (by kernel_rfl)
theorem reads (os : Os) {H : Type} (enc : TypeId × Value → H) : ∃ places, DataW.whole enc Tryd.prog ((laidWorld os).forCall (fun _ _ => 0) ⟨#[], #[arg0, .slice none 0 0], []⟩).memory Tryd.f5.params.toList Rows.tableBitsSpec.vars false #[arg0, Value.slice none 0 0].toList 8 = some ([.agg [.lit (.int .i64 0), .lit (.int .i64 0), .lit (.int .i64 0)], .nil], [], places) :=
  ⟨[], by kernel_rfl⟩
set_option maxRecDepth 100000 in
theorem lifted (os : Os) (started : os.Started) (H : Type) (enc : TypeId × Value → H) (F : Stop.Interp) :
    ReturnsInHanded {} Tryd.checked os 5 .any ((OpenSpec.ofChange Rows.tableBitsSpec).preRow enc Tryd.prog Tryd.f5 Rows.tableBitsRow.domain false Rows.tableBitsRow.laid) (((OpenSpec.ofChange Rows.tableBitsSpec).at F).post enc Tryd.prog Tryd.f5 false true false false) := by
  obtain ⟨places, hx⟩ := reads os enc
  refine returnsInHanded_of_row (C := Tryd.checked) (s := OpenSpec.ofChange Rows.tableBitsSpec) own started (by kernel_rfl) Tryd.func5
    (witness_row_at (enc := enc) (C := Tryd.checked) false (laidWorld os) #[arg0, .slice none 0 0] rfl (by kernel_rfl) (by kernel_rfl) (by kernel_rfl)
      (OpenSpec.preRow_of_cond 8 hx (by kernel_rfl) (fun k hk => by cases hk) (by kernel_rfl) (laid_met os))) ?_
  intro W base args ds gs before hval hW _ _ hsz hL _ _
  exact contract H enc W base args ds gs before hval hW hsz hL
theorem said : Rows.TableBitsSaid :=
  OpenClaim.holds_of_cond 5 Tryd.f5 rfl rfl rfl rfl rfl rfl rfl ⟨rfl, rfl, rfl, rfl, rfl⟩ rfl rfl rfl rfl rfl (by kernel_rfl) Tryd.func5 (by kernel_rfl)
    (of_decide_eq_true (by kernel_rfl)) (by unfold Func.isWrapper; first | (rw [if_pos (by decide +kernel)]; kernel_rfl) | (rw [if_neg (by decide +kernel)]; exact ⟨rfl, rfl⟩))
    (fun os started H enc _ F => by rw [OpenClaim.pre_eq_preRow]; exact lifted os started H enc F)
theorem plain (f : FuncId) (fn : Func) (hf : Tryd.pinned.checked.prog.funcNamed "paddock/paddocklaw17.TableBits" = some f) (hfn : Tryd.pinned.checked.prog.funcs[f]? = some fn) :
    false = Tryd.pinned.checked.prog.looks [] ∧ ∀ (j : Nat) t, fn.params[j]? = some t → Tryd.pinned.checked.prog.wantsStandIn t = false := by
  obtain rfl : f = 5 := Option.some.inj ((show Tryd.prog.funcNamed "paddock/paddocklaw17.TableBits" = some 5 by kernel_rfl).symm.trans hf) |>.symm
  obtain rfl : fn = Tryd.f5 := (Option.some.inj (Tryd.func5.symm.trans hfn)).symm
  refine ⟨by kernel_rfl, fun j t ht => ?_⟩
  rw [Tryd.params5] at ht
  have hm := Array.mem_of_getElem? ht
  simp at hm
  rcases hm with rfl | rfl
  · exact (show Tryd.prog.wantsStandIn 70 = false by kernel_rfl)
  · exact (show Tryd.prog.wantsStandIn 71 = false by kernel_rfl)
/-- The tied card of TableBits. -/
theorem card : Rows.TableBitsCardSaid :=
  Claim7.holds_tied_plain_at .later [] _ _ _ _ said (fun _ h => by cases h) (by kernel_rfl) (fun _ h => by cases h) tableBits_row_tie rfl ⟨rfl, rfl⟩ (by kernel_rfl) rfl plain (by kernel_rfl)
#print axioms card
end tableBits
end Go.Proofs.YtgoolkgjcmdilaaDoor
