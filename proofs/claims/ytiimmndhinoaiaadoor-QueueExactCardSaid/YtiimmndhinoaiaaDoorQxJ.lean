/-
  QueueExact: any numbers of places, any script over two rings: every answer, the books behind each step, and what All told when it was taken are the document's (the tied card).
-/
import Derived.Test.YtiimmndhinoaiaaDoorQxH
import Derived.Test.YtiimmndhinoaiaaDoorCdK
import Derived.Test.YtiimmndhinoaiaaDoorCards
import Derived.Test.YtiimmndhinoaiaaDoorTie
namespace Go.Proofs.YtiimmndhinoaiaaDoor
open Go.RowKit Go.ChangeShapes Go.WideShapes Go.ChangeAt cardK
set_option linter.unusedVariables false
set_option linter.unusedSimpArgs false

namespace queueExact
theorem fourq_of {α : Type} {l : List α} (h : l.length = 4) : ∃ a b c d, l = [a, b, c, d] := by
  match l, h with
  | [a, b, c, d], _ => exact ⟨a, b, c, d, rfl⟩
theorem cells3 : Tryd.prog.cellsOf 3 = 1 := by kernel_rfl
theorem cells51 : Tryd.prog.cellsOf 51 = 2 := by kernel_rfl
theorem cells69 : Tryd.prog.cellsOf 69 = 4 := by kernel_rfl
theorem bytes69 : Tryd.prog.bytesOf 69 = 32 := by kernel_rfl
set_option maxRecDepth 100000 in
theorem read_rooms {W : World} {H : Type} {enc : TypeId × Value → H} {fuel : Nat} {cs : List Value} {x : DataW H × List MemPlace} (h : DataW.trod enc Tryd.prog W 0 (fun _ => true) true fuel 51 cs = some x) : ∃ r0 r1 : Int, cs = [.int .i64 r0, .int .i64 r1] := by
  obtain ⟨xs, m, _, _, hl, hlen, hf⟩ := DataW.trod_array Tryd.underlying51 h
  rw [cells51] at hl
  obtain ⟨c0, c1, rfl⟩ := two_of hl
  obtain ⟨y0, y1, rfl⟩ := two_of hlen
  have h0 := hf 0 (by decide)
  have h1 := hf 1 (by decide)
  rw [cells3] at h0 h1
  obtain ⟨a, q0, _⟩ := read_int Tryd.underlying3 (x := y0) (by simpa using h0)
  obtain ⟨b, q1, _⟩ := read_int Tryd.underlying3 (x := y1) (by simpa using h1)
  cases q0; cases q1
  exact ⟨a, b, rfl⟩
set_option maxRecDepth 100000 in
theorem open_rooms {W : World} {H : Type} {enc : TypeId × Value → H} {v : Value} {d : DataW H} {p : List MemPlace} (hv : Value.okWide Tryd.prog W .any 0 51 v) (h : DataW.Trod enc Tryd.prog W 0 (fun _ => true) true 51 v d p) : ∃ r0 r1 : Int, v = .agg #[.int .i64 r0, .int .i64 r1] := by
  simp only [Value.okWide, Tryd.underlying51] at hv
  obtain ⟨cs, rfl, _⟩ := hv
  obtain ⟨fuel, hf⟩ := h
  obtain ⟨r0, r1, he⟩ := read_rooms (cs := cs.toList) hf
  exact ⟨r0, r1, by rw [← he]⟩
set_option maxRecDepth 100000 in
theorem read_steps {W : World} {H : Type} {enc : TypeId × Value → H} {fuel : Nat} {v : Value} {x : DataW H × List MemPlace} (h : DataW.trod enc Tryd.prog W 0 (fun _ => true) true fuel 52 [v] = some x) :
    ∃ C : List Qu.Stq, RdS W v 4 Qu.QStq C ∧ dlen x.1 = C.length := by
  obtain ⟨u, C, hu, hr, hl⟩ := read_list Tryd.underlying52 (by rw [cells69]; decide) Qu.QStq (fun n cs x hx => by
    obtain ⟨xs, m, _, _, hl, hlen, hf⟩ := DataW.trod_struct Tryd.underlying69 hx
    rw [cells69] at hl
    obtain ⟨c0, c1, c2, c3, rfl⟩ := fourq_of hl
    obtain ⟨y0, y1, y2, y3, rfl⟩ := fourq_of hlen
    obtain ⟨k0, h0, w0⟩ := read_int Tryd.underlying3 (hf 0 _ rfl)
    obtain ⟨k1, h1, w1⟩ := read_int Tryd.underlying3 (hf 1 _ rfl)
    obtain ⟨k2, h2, w2⟩ := read_int Tryd.underlying3 (hf 2 _ rfl)
    obtain ⟨k3, h3, w3⟩ := read_int Tryd.underlying3 (hf 3 _ rfl)
    have q0 : [c0] = [Value.int .i64 k0] := h0
    have q1 : [c1] = [Value.int .i64 k1] := h1
    have q2 : [c2] = [Value.int .i64 k2] := h2
    have q3 : [c3] = [Value.int .i64 k3] := h3
    cases q0; cases q1; cases q2; cases q3
    exact ⟨⟨k0, k1, k2, k3⟩, rfl, i64_of w2⟩) h
  rw [cells69] at hr
  have hvu : v = u := by simpa using hu
  subst hvu
  exact ⟨C, hr, hl⟩
set_option maxRecDepth 100000 in
theorem contract (H : Type) (enc : TypeId × Value → H) (W : World) (base : Nat) (args : Array Value) (ds gs : List (DataW H)) (before : List MemPlace)
    (hval : ∀ (j : Nat) t v, Tryd.f4.params[j]? = some t → args[j]? = some v → Value.okWide Tryd.prog W .any base t v)
    (hW : DataW.Whole enc Tryd.prog Tryd.f4.params.toList Rows.queueExactSpec.vars false W args.toList ds gs before) (hsz : (DataW.weightsEach Tryd.prog (Tryd.f4.params.toList ++ (OpenSpec.ofChange Rows.queueExactSpec).bare.plain.varTypes Tryd.prog) (ds ++ gs)).all (· ≤ reachBytes) = true) (hL : laidMetH Tryd.prog laidL W) :
    Calls Tryd.prog 4 args W fun e W' => ∃ v, e = .returned v ∧ Rows.queueExactSpec.post enc Tryd.prog Tryd.f4 false true false false W args v W' := by
  have hW' := hW
  obtain ⟨p, q, hA, hV, rfl, hfz, hnd⟩ := hW
  rw [Tryd.params4] at hA hval hsz
  obtain ⟨v0, v1, d0, d1, p0, p1, hargs, rfl, rfl, h0, h1⟩ := trodAll_two hA
  obtain ⟨rfl, rfl⟩ := trodVars_none hV
  have : args = #[v0, v1] := by simpa using hargs
  subst this
  obtain ⟨r0, r1, rfl⟩ := open_rooms (hval 0 51 v0 rfl rfl) h0
  obtain ⟨a1, l1, c1, rfl⟩ := okWide_slice Tryd.underlying52 (hval 1 52 v1 rfl rfl)
  obtain ⟨f1, hf1⟩ := h1
  obtain ⟨C, hC1, hC2⟩ := read_steps hf1
  dsimp only at hC2
  have hlen := sized_len hsz (j := 1) (t := 52) (e := 69) (d := d1) rfl rfl Tryd.underlying52
  rw [hC2, bytes69] at hlen
  refine (Qu.queue_any W r0 r1 _ C hC1 (by omega) (tb_of hL)).mono fun e W' ⟨he, hg⟩ => ?_
  exact ⟨_, he, law_post (tb := 4) laidOut (by
    rw [Tryd.params4]; intro t ht; simp at ht
    rcases ht with rfl | rfl
    · exact ⟨by kernel_rfl, of_decide_eq_true (by kernel_rfl)⟩
    · exact ⟨by kernel_rfl, of_decide_eq_true (by kernel_rfl)⟩) rfl Tryd.underlying4 rfl hW' rfl hg⟩
theorem laid_met (os : Os) : laidMet Tryd.prog laidL ((laidWorld os).forCall (fun _ _ => 0) ⟨#[], #[.agg #[.int .i64 0, .int .i64 0], .slice none 0 0], []⟩).memory :=
  laidMet_of_run' 8 (by kernel_rfl) (by kernel_rfl)
theorem reads (os : Os) {H : Type} (enc : TypeId × Value → H) : ∃ places, DataW.whole enc Tryd.prog ((laidWorld os).forCall (fun _ _ => 0) ⟨#[], #[.agg #[.int .i64 0, .int .i64 0], .slice none 0 0], []⟩).memory Tryd.f4.params.toList Rows.queueExactSpec.vars false (#[.agg #[.int .i64 0, .int .i64 0], .slice none 0 0] : Array Value).toList 8 = some ([.agg [.lit (.int .i64 0), .lit (.int .i64 0)], .nil], [], places) :=
  ⟨[], by kernel_rfl⟩
set_option maxRecDepth 100000 in
theorem lifted (os : Os) (started : os.Started) (H : Type) (enc : TypeId × Value → H) (F : Stop.Interp) :
    ReturnsInHanded {} Tryd.checked os 4 .any ((OpenSpec.ofChange Rows.queueExactSpec).preRow enc Tryd.prog Tryd.f4 Rows.queueExactRow.domain false Rows.queueExactRow.laid) (((OpenSpec.ofChange Rows.queueExactSpec).at F).post enc Tryd.prog Tryd.f4 false true false false) := by
  obtain ⟨places, hx⟩ := reads os enc
  refine returnsInHanded_of_row (C := Tryd.checked) (s := OpenSpec.ofChange Rows.queueExactSpec) own started (by kernel_rfl) Tryd.func4
    (witness_row_at (enc := enc) (C := Tryd.checked) false (laidWorld os) #[.agg #[.int .i64 0, .int .i64 0], .slice none 0 0] rfl (by kernel_rfl) (by kernel_rfl) (by kernel_rfl)
      (OpenSpec.preRow_of_cond 8 hx (by kernel_rfl) (fun k hk => by cases hk) (by kernel_rfl) (laid_met os))) ?_
  intro W base args ds gs before hval hW _ _ hsz hL _ _
  exact contract H enc W base args ds gs before hval hW hsz hL
theorem said : Rows.QueueExactSaid :=
  OpenClaim.holds_of_cond 4 Tryd.f4 rfl rfl rfl rfl rfl rfl rfl ⟨rfl, rfl, rfl, rfl, rfl⟩ rfl rfl rfl rfl rfl (by kernel_rfl) Tryd.func4 (by kernel_rfl)
    (of_decide_eq_true (by kernel_rfl)) (by unfold Func.isWrapper; first | (rw [if_pos (by decide +kernel)]; kernel_rfl) | (rw [if_neg (by decide +kernel)]; exact ⟨rfl, rfl⟩))
    (fun os started H enc _ F => by rw [OpenClaim.pre_eq_preRow]; exact lifted os started H enc F)
theorem plain (f : FuncId) (fn : Func) (hf : Tryd.pinned.checked.prog.funcNamed "paddock/paddocklaw15.QueueExact" = some f) (hfn : Tryd.pinned.checked.prog.funcs[f]? = some fn) :
    false = Tryd.pinned.checked.prog.looks [] ∧ ∀ (j : Nat) t, fn.params[j]? = some t → Tryd.pinned.checked.prog.wantsStandIn t = false := by
  obtain rfl : f = 4 := Option.some.inj ((show Tryd.prog.funcNamed "paddock/paddocklaw15.QueueExact" = some 4 by kernel_rfl).symm.trans hf) |>.symm
  obtain rfl : fn = Tryd.f4 := (Option.some.inj (Tryd.func4.symm.trans hfn)).symm
  refine ⟨by kernel_rfl, fun j t ht => ?_⟩
  rw [Tryd.params4] at ht
  have hm := Array.mem_of_getElem? ht
  simp at hm
  rcases hm with rfl | rfl
  · exact (show Tryd.prog.wantsStandIn 51 = false by kernel_rfl)
  · exact (show Tryd.prog.wantsStandIn 52 = false by kernel_rfl)
/-- The tied card of QueueExact. -/
theorem card : Rows.QueueExactCardSaid :=
  Claim7.holds_tied_plain_at .later [] _ _ _ _ said (fun _ h => by cases h) (by kernel_rfl) (fun _ h => by cases h) queueExact_row_tie rfl ⟨rfl, rfl⟩ (by kernel_rfl) rfl plain (by kernel_rfl)
#print axioms card
end queueExact
end Go.Proofs.YtiimmndhinoaiaaDoor
