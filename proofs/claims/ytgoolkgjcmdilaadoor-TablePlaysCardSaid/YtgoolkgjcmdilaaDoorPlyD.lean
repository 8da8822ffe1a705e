/-
  TablePlays: for every two rooms and every script of steps, each answer of each call on the two tables is the document's, walks that were taken tell what there was then, and nil and zero tables answer nothing (the tied card).
-/
import Derived.Test.YtgoolkgjcmdilaaDoorPlyC
import Derived.Test.YtgoolkgjcmdilaaDoorCardK
import Derived.Test.YtgoolkgjcmdilaaDoorCards
import Derived.Test.YtgoolkgjcmdilaaDoorTie
namespace Go.Proofs.YtgoolkgjcmdilaaDoor
open Go.RowKit Go.ChangeShapes Go.WideShapes Go.ChangeAt cardK
set_option linter.unusedVariables false
set_option linter.unusedSimpArgs false

namespace tablePlays
theorem walk (w : World) (r0 r1 : Int) (sl : Value) (l : List Stp) (hT : DeB w) (hs : RdSt w sl l) (hl : l.length * 32 ≤ 140737488355328) (hids : ∀ x, x ∈ l → U32 x.id) :
    Calls Tryd.prog 4 #[.agg #[.int .i64 r0, .int .i64 r1], sl] w fun e w' => e = .returned (.bool true) ∧ Fr [] w w' := by
  by_cases h0 : 0 ≤ r0 ∧ r0 ≤ 65536
  · exact plays_yes0 w r0 r1 sl l hT h0 hs hl hids
  · exact plays_no0 w r0 r1 sl hT h0
theorem cells44 : Tryd.prog.cellsOf 44 = 2 := by kernel_rfl
theorem cells3 : Tryd.prog.cellsOf 3 = 1 := by kernel_rfl
theorem cells55 : Tryd.prog.cellsOf 55 = 5 := by kernel_rfl
theorem bytes55 : Tryd.prog.bytesOf 55 = 32 := by kernel_rfl
set_option maxRecDepth 100000 in
theorem read_steps {W : World} {H : Type} {enc : TypeId × Value → H} {fuel : Nat} {v : Value} {x : DataW H × List MemPlace} (h : DataW.trod enc Tryd.prog W 0 (fun _ => true) true fuel 45 [v] = some x) :
    ∃ l : List Stp, RdSt W v l ∧ (∀ s, s ∈ l → U32 s.id) ∧ dlen x.1 = l.length := by
  obtain ⟨u, l, hu, hr, hd⟩ := read_list Tryd.underlying45 (by rw [cells55]; decide) (fun cs (s : Stp) => cs = s.cells ∧ U32 s.id) (fun n cs x hx => by
    obtain ⟨xs, m, _, _, hl, hlen, hf⟩ := DataW.trod_struct Tryd.underlying55 hx
    rw [cells55] at hl
    obtain ⟨c0, c1, c2, c3, c4, rfl⟩ := five_of hl
    obtain ⟨y0, y1, y2, y3, y4, rfl⟩ := five_of hlen
    obtain ⟨d, h0, _⟩ := read_int Tryd.underlying3 (hf 0 _ rfl)
    obtain ⟨o, h1⟩ := read_bool Tryd.underlying4 (hf 1 _ rfl)
    obtain ⟨i, h2, hw⟩ := read_int Tryd.underlying33 (hf 2 _ rfl)
    obtain ⟨n, h3, _⟩ := read_int Tryd.underlying3 (hf 3 _ rfl)
    obtain ⟨b, h4⟩ := read_bool Tryd.underlying4 (hf 4 _ rfl)
    have q0 : [c0] = [Value.int .i64 d] := h0
    have q1 : [c1] = [Value.bool o] := h1
    have q2 : [c2] = [Value.int .u32 i] := h2
    have q3 : [c3] = [Value.int .i64 n] := h3
    have q4 : [c4] = [Value.bool b] := h4
    cases q0; cases q1; cases q2; cases q3; cases q4
    exact ⟨⟨d, o, i, n, b⟩, rfl, bounds_u32 hw⟩) h
  rw [cells55] at hr
  have hvu : v = u := by simpa using hu
  subst hvu
  obtain ⟨p, cap, rfl, _, _, h0⟩ := hr
  refine ⟨l, ⟨p, cap, rfl, ?_⟩, fun s hs => ?_, hd⟩
  · rcases h0 with h0 | ⟨g, o, rfl, h0⟩
    · exact .inl h0
    · refine .inr ⟨g, o, rfl, fun j s hj => ?_⟩
      obtain ⟨hk, e⟩ := List.getElem?_eq_some_iff.1 hj
      obtain ⟨cs, _, hcs, hq, _⟩ := h0 j hk
      rw [e] at hq
      refine ⟨?_, hcs 1 _ (by rw [hq]; rfl), hcs 2 _ (by rw [hq]; rfl), hcs 3 _ (by rw [hq]; rfl), hcs 4 _ (by rw [hq]; rfl)⟩
      simpa using hcs 0 _ (by rw [hq]; rfl)
  · obtain ⟨k, hk⟩ := List.mem_iff_getElem?.1 hs
    obtain ⟨hk1, e⟩ := List.getElem?_eq_some_iff.1 hk
    rcases h0 with h0 | ⟨g, o, rfl, h0⟩
    · omega
    · obtain ⟨cs, _, _, _, hu⟩ := h0 k hk1
      rw [e] at hu
      exact hu
set_option maxRecDepth 100000 in
theorem read_rooms {W : World} {H : Type} {enc : TypeId × Value → H} {fuel : Nat} {cs : List Value} {x : DataW H × List MemPlace} (h : DataW.trod enc Tryd.prog W 0 (fun _ => true) true fuel 44 cs = some x) : ∃ r0 r1 : Int, cs = [.int .i64 r0, .int .i64 r1] := by
  obtain ⟨xs, m, _, _, hl, hlen, hf⟩ := DataW.trod_array Tryd.underlying44 h
  rw [cells44] at hl
  obtain ⟨c0, c1, rfl⟩ := two_of hl
  obtain ⟨y0, y1, rfl⟩ := two_of hlen
  have h0 := hf 0 (by decide)
  have h1 := hf 1 (by decide)
  rw [cells3] at h0 h1
  obtain ⟨a, q0, _⟩ := read_int Tryd.underlying3 (x := y0) (by simpa using h0)
  obtain ⟨b, q1, _⟩ := read_int Tryd.underlying3 (x := y1) (by simpa using h1)
  cases q0; cases q1
  exact ⟨a, b, rfl⟩
set_option maxRecDepth 100000 in
theorem open_rooms {W : World} {H : Type} {enc : TypeId × Value → H} {v : Value} {d : DataW H} {p : List MemPlace} (hv : Value.okWide Tryd.prog W .any 0 44 v) (h : DataW.Trod enc Tryd.prog W 0 (fun _ => true) true 44 v d p) : ∃ r0 r1 : Int, v = .agg #[.int .i64 r0, .int .i64 r1] := by
  simp only [Value.okWide, Tryd.underlying44] at hv
  obtain ⟨cs, rfl, _⟩ := hv
  obtain ⟨fuel, hf⟩ := h
  obtain ⟨r0, r1, he⟩ := read_rooms (cs := cs.toList) hf
  exact ⟨r0, r1, by rw [← he]⟩
set_option maxRecDepth 100000 in
theorem contract (H : Type) (enc : TypeId × Value → H) (W : World) (base : Nat) (args : Array Value) (ds gs : List (DataW H)) (before : List MemPlace)
    (hval : ∀ (j : Nat) t v, Tryd.f4.params[j]? = some t → args[j]? = some v → Value.okWide Tryd.prog W .any base t v)
    (hW : DataW.Whole enc Tryd.prog Tryd.f4.params.toList Rows.tablePlaysSpec.vars false W args.toList ds gs before) (hsz : (DataW.weightsEach Tryd.prog (Tryd.f4.params.toList ++ (OpenSpec.ofChange Rows.tablePlaysSpec).bare.plain.varTypes Tryd.prog) (ds ++ gs)).all (· ≤ reachBytes) = true) (hL : laidMetH Tryd.prog laidL W) :
    Calls Tryd.prog 4 args W fun e W' => ∃ v, e = .returned v ∧ Rows.tablePlaysSpec.post enc Tryd.prog Tryd.f4 false true false false W args v W' := by
  have hW' := hW
  obtain ⟨p, q, hA, hV, rfl, hfz, hnd⟩ := hW
  rw [Tryd.params4] at hA hval hsz
  obtain ⟨v0, v1, d0, d1, p0, p1, hargs, rfl, rfl, h0, h1⟩ := trodAll_two hA
  obtain ⟨rfl, rfl⟩ := trodVars_none hV
  have : args = #[v0, v1] := by simpa using hargs
  subst this
  obtain ⟨r0, r1, rfl⟩ := open_rooms (hval 0 44 v0 rfl rfl) h0
  obtain ⟨a1, l1, c1, rfl⟩ := okWide_slice Tryd.underlying45 (hval 1 45 v1 rfl rfl)
  obtain ⟨f1, hf1⟩ := h1
  obtain ⟨l, hl1, hl2, hl3⟩ := read_steps hf1
  dsimp only at hl3
  have hlen := sized_len hsz (j := 1) (t := 45) (e := 55) (d := d1) rfl rfl Tryd.underlying45
  rw [hl3, bytes55] at hlen
  refine (walk W r0 r1 _ l (deB_of hL) hl1 (by omega) hl2).mono fun e W' ⟨he, hg⟩ => ?_
  exact ⟨_, he, law_post (tb := 4) laidOut (by
    rw [Tryd.params4]; intro t ht; simp at ht
    rcases ht with rfl | rfl
    · exact ⟨by kernel_rfl, of_decide_eq_true (by kernel_rfl)⟩
    · exact ⟨by kernel_rfl, of_decide_eq_true (by kernel_rfl)⟩) rfl Tryd.underlying4 rfl hW' rfl hg⟩
abbrev arg0 : Value := .agg #[.int .i64 0, .int .i64 0]
theorem laid_met (os : Os) : laidMet Tryd.prog laidL ((laidWorld os).forCall (fun _ _ => 0) ⟨#[], #[arg0, .slice none 0 0], []⟩).memory :=
  laidMet_of_run' 8 (by kernel_rfl) (by kernel_rfl)
theorem reads (os : Os) {H : Type} (enc : TypeId × Value → H) : ∃ places, DataW.whole enc Tryd.prog ((laidWorld os).forCall (fun _ _ => 0) ⟨#[], #[arg0, .slice none 0 0], []⟩).memory Tryd.f4.params.toList Rows.tablePlaysSpec.vars false #[arg0, Value.slice none 0 0].toList 8 = some ([.agg [.lit (.int .i64 0), .lit (.int .i64 0)], .nil], [], places) :=
  ⟨[], by kernel_rfl⟩
set_option maxRecDepth 100000 in
theorem lifted (os : Os) (started : os.Started) (H : Type) (enc : TypeId × Value → H) (F : Stop.Interp) :
    ReturnsInHanded {} Tryd.checked os 4 .any ((OpenSpec.ofChange Rows.tablePlaysSpec).preRow enc Tryd.prog Tryd.f4 Rows.tablePlaysRow.domain false Rows.tablePlaysRow.laid) (((OpenSpec.ofChange Rows.tablePlaysSpec).at F).post enc Tryd.prog Tryd.f4 false true false false) := by
  obtain ⟨places, hx⟩ := reads os enc
  refine returnsInHanded_of_row (C := Tryd.checked) (s := OpenSpec.ofChange Rows.tablePlaysSpec) own started (by kernel_rfl) Tryd.func4
    (witness_row_at (enc := enc) (C := Tryd.checked) false (laidWorld os) #[arg0, .slice none 0 0] rfl (by kernel_rfl) (by kernel_rfl) (by kernel_rfl)
      (OpenSpec.preRow_of_cond 8 hx (by kernel_rfl) (fun k hk => by cases hk) (by kernel_rfl) (laid_met os))) ?_
  intro W base args ds gs before hval hW _ _ hsz hL _ _
  exact contract H enc W base args ds gs before hval hW hsz hL
theorem said : Rows.TablePlaysSaid :=
  OpenClaim.holds_of_cond 4 Tryd.f4 rfl rfl rfl rfl rfl rfl rfl ⟨rfl, rfl, rfl, rfl, rfl⟩ rfl rfl rfl rfl rfl (by kernel_rfl) Tryd.func4 (by kernel_rfl)
    (of_decide_eq_true (by kernel_rfl)) (by unfold Func.isWrapper; first | (rw [if_pos (by decide +kernel)]; kernel_rfl) | (rw [if_neg (by decide +kernel)]; exact ⟨rfl, rfl⟩))
    (fun os started H enc _ F => by rw [OpenClaim.pre_eq_preRow]; exact lifted os started H enc F)
theorem plain (f : FuncId) (fn : Func) (hf : Tryd.pinned.checked.prog.funcNamed "paddock/paddocklaw17.TablePlays" = some f) (hfn : Tryd.pinned.checked.prog.funcs[f]? = some fn) :
    false = Tryd.pinned.checked.prog.looks [] ∧ ∀ (j : Nat) t, fn.params[j]? = some t → Tryd.pinned.checked.prog.wantsStandIn t = false := by
  obtain rfl : f = 4 := Option.some.inj ((show Tryd.prog.funcNamed "paddock/paddocklaw17.TablePlays" = some 4 by kernel_rfl).symm.trans hf) |>.symm
  obtain rfl : fn = Tryd.f4 := (Option.some.inj (Tryd.func4.symm.trans hfn)).symm
  refine ⟨by kernel_rfl, fun j t ht => ?_⟩
  rw [Tryd.params4] at ht
  have hm := Array.mem_of_getElem? ht
  simp at hm
  rcases hm with rfl | rfl
  · exact (show Tryd.prog.wantsStandIn 44 = false by kernel_rfl)
  · exact (show Tryd.prog.wantsStandIn 45 = false by kernel_rfl)
/-- The tied card of TablePlays. -/
theorem card : Rows.TablePlaysCardSaid :=
  Claim7.holds_tied_plain_at .later [] _ _ _ _ said (fun _ h => by cases h) (by kernel_rfl) (fun _ h => by cases h) tablePlays_row_tie rfl ⟨rfl, rfl⟩ (by kernel_rfl) rfl plain (by kernel_rfl)
#print axioms card
end tablePlays
end Go.Proofs.YtgoolkgjcmdilaaDoor
