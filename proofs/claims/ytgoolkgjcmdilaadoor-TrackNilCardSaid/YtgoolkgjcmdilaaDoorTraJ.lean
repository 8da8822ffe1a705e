/-
  TrackNil: for every step, a nil Book and a zero one answer it as none (the tied card).
-/
import Derived.Test.YtgoolkgjcmdilaaDoorTraI
import Derived.Test.YtgoolkgjcmdilaaDoorCardK
import Derived.Test.YtgoolkgjcmdilaaDoorCards
import Derived.Test.YtgoolkgjcmdilaaDoorTie
namespace Go.Proofs.YtgoolkgjcmdilaaDoor
open Go.RowKit Go.ChangeShapes Go.WideShapes Go.ChangeAt cardK
set_option linter.unusedVariables false
set_option linter.unusedSimpArgs false

namespace trackNil
theorem cells33 : Tryd.prog.cellsOf 33 = 1 := by kernel_rfl
theorem cells98 : Tryd.prog.cellsOf 98 = 2 := by kernel_rfl
theorem cells119 : Tryd.prog.cellsOf 119 = 7 := by kernel_rfl
theorem cells121 : Tryd.prog.cellsOf 121 = 14 := by kernel_rfl
theorem read_float {W : World} {H : Type} {enc : TypeId × Value → H} {t : TypeId} {k : FloatKind} {fuel : Nat} {cs : List Value} {x : DataW H × List MemPlace} (ht : Tryd.prog.underlying t = some (.float k)) (h : DataW.trod enc Tryd.prog W 0 (fun _ => true) true fuel t cs = some x) : ∃ b : Nat, cs = [.float k b] := by
  cases fuel with
  | zero => simp [DataW.trod] at h
  | succ n =>
    unfold DataW.trod at h
    rw [ht] at h
    split at h <;> simp_all
theorem l2 {α : Type} {l : List α} (h : l.length = 2) : ∃ a b, l = [a, b] := by
  match l, h with
  | [a, b], _ => exact ⟨a, b, rfl⟩
theorem l6 {α : Type} {l : List α} (h : l.length = 6) : ∃ a b c d e f, l = [a, b, c, d, e, f] := by
  match l, h with
  | [a, b, c, d, e, f], _ => exact ⟨a, b, c, d, e, f, rfl⟩
theorem l7 {α : Type} {l : List α} (h : l.length = 7) : ∃ a b c d e f g, l = [a, b, c, d, e, f, g] := by
  match l, h with
  | [a, b, c, d, e, f, g], _ => exact ⟨a, b, c, d, e, f, g, rfl⟩
theorem l14 {α : Type} {l : List α} (h : l.length = 14) : ∃ a b c d e f g a' b' c' d' e' f' g', l = [a, b, c, d, e, f, g, a', b', c', d', e', f', g'] := by
  match l, h with
  | [a, b, c, d, e, f, g, a', b', c', d', e', f', g'], _ => exact ⟨a, b, c, d, e, f, g, a', b', c', d', e', f', g', rfl⟩
set_option maxRecDepth 100000 in
theorem read_point {W : World} {H : Type} {enc : TypeId × Value → H} {fuel : Nat} {cs : List Value} {x : DataW H × List MemPlace} (h : DataW.trod enc Tryd.prog W 0 (fun _ => true) true fuel 98 cs = some x) : ∃ a b : Int, cs = [.int .i32 a, .int .i32 b] := by
  obtain ⟨xs, m, _, _, hl, hlen, hf⟩ := DataW.trod_struct Tryd.underlying98 h
  rw [cells98] at hl
  obtain ⟨c0, c1, rfl⟩ := l2 hl
  obtain ⟨y0, y1, rfl⟩ := l2 hlen
  obtain ⟨a, h0, _⟩ := read_int Tryd.underlying21 (hf 0 _ rfl)
  obtain ⟨b, h1, _⟩ := read_int Tryd.underlying21 (hf 1 _ rfl)
  have q0 : [c0] = [Value.int .i32 a] := h0
  have q1 : [c1] = [Value.int .i32 b] := h1
  cases q0; cases q1
  exact ⟨a, b, rfl⟩
theorem read_ids {W : World} {H : Type} {enc : TypeId × Value → H} {fuel : Nat} {cs : List Value} {x : DataW H × List MemPlace} (h : DataW.trod enc Tryd.prog W 0 (fun _ => true) true fuel 22 cs = some x) : ∃ p n c, cs = [.slice p n c] := by
  obtain ⟨u, l, hu, hr, hd⟩ := read_list Tryd.underlying22 (by rw [cells33]; decide) (fun cs (s : Unit) => True) (fun n cs x hx => ⟨(), trivial⟩) h
  obtain ⟨p, cap, rfl, _⟩ := hr
  exact ⟨p, _, cap, hu⟩
set_option maxRecDepth 100000 in
theorem read_object {W : World} {H : Type} {enc : TypeId × Value → H} {fuel : Nat} {cs : List Value} {x : DataW H × List MemPlace} (h : DataW.trod enc Tryd.prog W 0 (fun _ => true) true fuel 119 cs = some x) :
    ∃ (a b c d e : Int) (s : Nat) (p : Option Addr) (n k : Nat), cs = [.int .u32 a, .int .u32 b, .int .u32 c, .int .i32 d, .int .i32 e, .float .f64 s, .slice p n k] := by
  obtain ⟨xs, m, _, _, hl, hlen, hf⟩ := DataW.trod_struct Tryd.underlying119 h
  rw [cells119] at hl
  obtain ⟨c0, c1, c2, c3, c4, c5, c6, rfl⟩ := l7 hl
  obtain ⟨y0, y1, y2, y3, y4, y5, rfl⟩ := l6 hlen
  obtain ⟨a, h0, _⟩ := read_int Tryd.underlying33 (hf 0 _ rfl)
  obtain ⟨b, h1, _⟩ := read_int Tryd.underlying33 (hf 1 _ rfl)
  obtain ⟨c, h2, _⟩ := read_int Tryd.underlying33 (hf 2 _ rfl)
  obtain ⟨d, e, h3⟩ := read_point (hf 3 _ rfl)
  obtain ⟨s, h4⟩ := read_float Tryd.underlying102 (hf 4 _ rfl)
  obtain ⟨p, n, k, h5⟩ := read_ids (hf 5 _ rfl)
  have q0 : [c0] = [Value.int .u32 a] := h0
  have q1 : [c1] = [Value.int .u32 b] := h1
  have q2 : [c2] = [Value.int .u32 c] := h2
  have q3 : [c3, c4] = [Value.int .i32 d, .int .i32 e] := h3
  have q4 : [c5] = [Value.float .f64 s] := h4
  have q5 : [c6] = [Value.slice p n k] := h5
  cases q0; cases q1; cases q2; cases q3; cases q4; cases q5
  exact ⟨a, b, c, d, e, s, p, n, k, rfl⟩
set_option maxRecDepth 100000 in
theorem read_step {W : World} {H : Type} {enc : TypeId × Value → H} {fuel : Nat} {cs : List Value} {x : DataW H × List MemPlace} (h : DataW.trod enc Tryd.prog W 0 (fun _ => true) true fuel 121 cs = some x) :
    ∃ (kd ob fe nu ti px py a b c d e : Int) (s : Nat) (p : Option Addr) (n k : Nat), cs = [.int .i64 kd, .int .u32 ob, .int .u32 fe, .int .u32 nu, .int .u32 ti, .int .i32 px, .int .i32 py, .int .u32 a, .int .u32 b, .int .u32 c, .int .i32 d, .int .i32 e, .float .f64 s, .slice p n k] := by
  obtain ⟨xs, m, _, _, hl, hlen, hf⟩ := DataW.trod_struct Tryd.underlying121 h
  rw [cells121] at hl
  obtain ⟨c0, c1, c2, c3, c4, c5, c6, c7, c8, c9, ca, cb, cc, cd, rfl⟩ := l14 hl
  obtain ⟨y0, y1, y2, y3, y4, y5, y6, rfl⟩ := l7 hlen
  obtain ⟨kd, h0, _⟩ := read_int Tryd.underlying3 (hf 0 _ rfl)
  obtain ⟨ob, h1, _⟩ := read_int Tryd.underlying33 (hf 1 _ rfl)
  obtain ⟨fe, h2, _⟩ := read_int Tryd.underlying33 (hf 2 _ rfl)
  obtain ⟨nu, h3, _⟩ := read_int Tryd.underlying33 (hf 3 _ rfl)
  obtain ⟨ti, h4, _⟩ := read_int Tryd.underlying33 (hf 4 _ rfl)
  obtain ⟨px, py, h5⟩ := read_point (hf 5 _ rfl)
  obtain ⟨a, b, c, d, e, s, p, n, k, h6⟩ := read_object (hf 6 _ rfl)
  have q0 : [c0] = [Value.int .i64 kd] := h0
  have q1 : [c1] = [Value.int .u32 ob] := h1
  have q2 : [c2] = [Value.int .u32 fe] := h2
  have q3 : [c3] = [Value.int .u32 nu] := h3
  have q4 : [c4] = [Value.int .u32 ti] := h4
  have q5 : [c5, c6] = [Value.int .i32 px, .int .i32 py] := h5
  have q6 : [c7, c8, c9, ca, cb, cc, cd] = [Value.int .u32 a, .int .u32 b, .int .u32 c, .int .i32 d, .int .i32 e, .float .f64 s, .slice p n k] := h6
  cases q0; cases q1; cases q2; cases q3; cases q4; cases q5; cases q6
  exact ⟨kd, ob, fe, nu, ti, px, py, a, b, c, d, e, s, p, n, k, rfl⟩
set_option maxRecDepth 100000 in
theorem contract (H : Type) (enc : TypeId × Value → H) (W : World) (base : Nat) (args : Array Value) (ds gs : List (DataW H)) (before : List MemPlace)
    (hval : ∀ (j : Nat) t v, Tryd.f10.params[j]? = some t → args[j]? = some v → Value.okWide Tryd.prog W .any base t v)
    (hW : DataW.Whole enc Tryd.prog Tryd.f10.params.toList Rows.trackNilSpec.vars false W args.toList ds gs before) (hL : laidMetH Tryd.prog laidL W) :
    Calls Tryd.prog 10 args W fun e W' => ∃ v, e = .returned v ∧ Rows.trackNilSpec.post enc Tryd.prog Tryd.f10 false true false false W args v W' := by
  have hW' := hW
  obtain ⟨p, q, hA, hV, rfl, hfz, hnd⟩ := hW
  rw [Tryd.params10] at hA hval
  obtain ⟨v0, d0, hargs, rfl, h0⟩ := trodAll_one hA
  obtain ⟨rfl, rfl⟩ := trodVars_none hV
  have : args = #[v0] := by simpa using hargs
  subst this
  obtain ⟨fuel, cs, rfl, hf⟩ := open_agg Tryd.underlying121 (hval 0 121 v0 rfl rfl) h0
  obtain ⟨kd, ob, fe, nu, ti, px, py, a, b, c, d, e, s, p, n, k, rfl⟩ := read_step hf
  refine (trackNil_walk W (deB_of hL) kd ob fe nu ti px py a b c d e s p n k).mono fun e W' ⟨he, hg⟩ => ?_
  exact ⟨_, he, law_post (tb := 4) laidOut (by
    rw [Tryd.params10]; intro t ht; simp at ht
    subst ht
    exact ⟨by kernel_rfl, of_decide_eq_true (by kernel_rfl)⟩) rfl Tryd.underlying4 rfl hW' rfl hg⟩
abbrev arg0 : Value := .agg #[.int .i64 0, .int .u32 0, .int .u32 0, .int .u32 0, .int .u32 0, .int .i32 0, .int .i32 0, .int .u32 0, .int .u32 0, .int .u32 0, .int .i32 0, .int .i32 0, .float .f64 0, .slice none 0 0]
theorem laid_met (os : Os) : laidMet Tryd.prog laidL ((laidWorld os).forCall (fun _ _ => 0) ⟨#[], #[arg0], []⟩).memory :=
  laidMet_of_run' 8 (by kernel_rfl) (by kernel_rfl)
theorem reads (os : Os) {H : Type} (enc : TypeId × Value → H) : ∃ places, DataW.whole enc Tryd.prog ((laidWorld os).forCall (fun _ _ => 0) ⟨#[], #[arg0], []⟩).memory Tryd.f10.params.toList Rows.trackNilSpec.vars false #[arg0].toList 8 = some ([.agg [.lit (.int .i64 0), .lit (.int .u32 0), .lit (.int .u32 0), .lit (.int .u32 0), .lit (.int .u32 0), .agg [.lit (.int .i32 0), .lit (.int .i32 0)], .agg [.lit (.int .u32 0), .lit (.int .u32 0), .lit (.int .u32 0), .agg [.lit (.int .i32 0), .lit (.int .i32 0)], .lit (.float .f64 0), .nil]]], [], places) :=
  ⟨[], by kernel_rfl⟩
set_option maxRecDepth 100000 in
theorem lifted (os : Os) (started : os.Started) (H : Type) (enc : TypeId × Value → H) (F : Stop.Interp) :
    ReturnsInHanded {} Tryd.checked os 10 .any ((OpenSpec.ofChange Rows.trackNilSpec).preRow enc Tryd.prog Tryd.f10 Rows.trackNilRow.domain false Rows.trackNilRow.laid) (((OpenSpec.ofChange Rows.trackNilSpec).at F).post enc Tryd.prog Tryd.f10 false true false false) := by
  obtain ⟨places, hx⟩ := reads os enc
  refine returnsInHanded_of_row (C := Tryd.checked) (s := OpenSpec.ofChange Rows.trackNilSpec) own started (by kernel_rfl) Tryd.func10
    (witness_row_at (enc := enc) (C := Tryd.checked) false (laidWorld os) #[arg0] rfl (by kernel_rfl) (by kernel_rfl) (by kernel_rfl)
      (OpenSpec.preRow_of_cond 8 hx (by kernel_rfl) (fun k hk => by cases hk) (by kernel_rfl) (laid_met os))) ?_
  intro W base args ds gs before hval hW _ _ hsz hL _ _
  exact contract H enc W base args ds gs before hval hW hL
theorem said : Rows.TrackNilSaid :=
  OpenClaim.holds_of_cond 10 Tryd.f10 rfl rfl rfl rfl rfl rfl rfl ⟨rfl, rfl, rfl, rfl, rfl⟩ rfl rfl rfl rfl rfl (by kernel_rfl) Tryd.func10 (by kernel_rfl)
    (of_decide_eq_true (by kernel_rfl)) (by unfold Func.isWrapper; first | (rw [if_pos (by decide +kernel)]; kernel_rfl) | (rw [if_neg (by decide +kernel)]; exact ⟨rfl, rfl⟩))
    (fun os started H enc _ F => by rw [OpenClaim.pre_eq_preRow]; exact lifted os started H enc F)
theorem plain (f : FuncId) (fn : Func) (hf : Tryd.pinned.checked.prog.funcNamed "paddock/paddocklaw18.TrackNil" = some f) (hfn : Tryd.pinned.checked.prog.funcs[f]? = some fn) :
    false = Tryd.pinned.checked.prog.looks [] ∧ ∀ (j : Nat) t, fn.params[j]? = some t → Tryd.pinned.checked.prog.wantsStandIn t = false := by
  obtain rfl : f = 10 := Option.some.inj ((show Tryd.prog.funcNamed "paddock/paddocklaw18.TrackNil" = some 10 by kernel_rfl).symm.trans hf) |>.symm
  obtain rfl : fn = Tryd.f10 := (Option.some.inj (Tryd.func10.symm.trans hfn)).symm
  refine ⟨by kernel_rfl, fun j t ht => ?_⟩
  rw [Tryd.params10] at ht
  have hm := Array.mem_of_getElem? ht
  simp at hm
  subst hm
  exact (show Tryd.prog.wantsStandIn 121 = false by kernel_rfl)
/-- The tied card of TrackNil. -/
theorem card : Rows.TrackNilCardSaid :=
  Claim7.holds_tied_plain_at .later [] _ _ _ _ said (fun _ h => by cases h) (by kernel_rfl) (fun _ h => by cases h) trackNil_row_tie rfl ⟨rfl, rfl⟩ (by kernel_rfl) rfl plain (by kernel_rfl)
#print axioms card
end trackNil
end Go.Proofs.YtgoolkgjcmdilaaDoor
