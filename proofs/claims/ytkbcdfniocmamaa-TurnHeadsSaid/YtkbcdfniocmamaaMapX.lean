/-
  TurnPlaces: of any points what brings them to others; where one is placed; headings. For every input.
-/
import Derived.Test.YtkbcdfniocmamaaMapW
import Derived.Test.YtkbcdfniocmamaaMapO
namespace Go.Proofs.Ytkbcdfniocmamaa
open Go.RowKit Go.ChangeShapes Go.WideShapes Go.ChangeAt
set_option linter.unusedVariables false

theorem cells64 : Try.prog.cellsOf 64 = 2 := by kernel_rfl
theorem cells82 : Try.prog.cellsOf 82 = 8 := by kernel_rfl
theorem eight_of {α : Type} {l : List α} (h : l.length = 8) : ∃ a b c d e f g k, l = [a, b, c, d, e, f, g, k] := by
  match l, h with
  | [a, b, c, d, e, f, g, k], _ => exact ⟨a, b, c, d, e, f, g, k, rfl⟩
set_option maxRecDepth 100000 in
theorem read_point {w : World} {H : Type} {enc : TypeId × Value → H} {fuel : Nat} {cs : List Value} {x : DataW H × List MemPlace} (h : DataW.trod enc Try.prog w 0 (fun _ => true) true fuel 64 cs = some x) :
    ∃ m n : Int, cs = [.int .i32 m, .int .i32 n] ∧ I32 m ∧ I32 n := by
  obtain ⟨xs, m, _, _, hl, hlen, hf⟩ := DataW.trod_struct Try.underlying64 h
  rw [cells64] at hl
  obtain ⟨a, b, rfl⟩ := two_of hl
  obtain ⟨y0, y1, rfl⟩ := two_of hlen
  obtain ⟨n0, h0, w0⟩ := read_int Try.underlying21 (hf 0 _ rfl)
  obtain ⟨n1, h1, w1⟩ := read_int Try.underlying21 (hf 1 _ rfl)
  have q0 : [a] = [Value.int .i32 n0] := h0
  have q1 : [b] = [Value.int .i32 n1] := h1
  cases q0; cases q1
  have b0 := bounds_i32 w0
  have b1 := bounds_i32 w1
  exact ⟨n0, n1, rfl, by unfold I32; omega, by unfold I32; omega⟩
set_option maxRecDepth 100000 in
theorem read_points {w : World} {H : Type} {enc : TypeId × Value → H} {fuel : Nat} {cs : List Value} {x : DataW H × List MemPlace} (h : DataW.trod enc Try.prog w 0 (fun _ => true) true fuel 82 cs = some x) :
    ∃ a b c d a2 b2 c2 d2 : Int, cs = [.int .i32 a, .int .i32 b, .int .i32 c, .int .i32 d, .int .i32 a2, .int .i32 b2, .int .i32 c2, .int .i32 d2] ∧ I32 a ∧ I32 b ∧ I32 c ∧ I32 d ∧ I32 a2 ∧ I32 b2 ∧ I32 c2 ∧ I32 d2 := by
  obtain ⟨xs, m, _, _, hl, hlen, hf⟩ := DataW.trod_struct Try.underlying82 h
  rw [cells82] at hl
  obtain ⟨a, b, c, d, a2, b2, c2, d2, rfl⟩ := eight_of hl
  obtain ⟨y0, y1, y2, y3, rfl⟩ := four_of hlen
  obtain ⟨m0, n0, h0, i0, j0⟩ := read_point (hf 0 _ rfl)
  obtain ⟨m1, n1, h1, i1, j1⟩ := read_point (hf 1 _ rfl)
  obtain ⟨m2, n2, h2, i2, j2⟩ := read_point (hf 2 _ rfl)
  obtain ⟨m3, n3, h3, i3, j3⟩ := read_point (hf 3 _ rfl)
  have q0 : [a, b] = [Value.int .i32 m0, .int .i32 n0] := h0
  have q1 : [c, d] = [Value.int .i32 m1, .int .i32 n1] := h1
  have q2 : [a2, b2] = [Value.int .i32 m2, .int .i32 n2] := h2
  have q3 : [c2, d2] = [Value.int .i32 m3, .int .i32 n3] := h3
  cases q0; cases q1; cases q2; cases q3
  exact ⟨m0, n0, m1, n1, m2, n2, m3, n3, rfl, i0, j0, i1, j1, i2, j2, i3, j3⟩
namespace places
set_option maxRecDepth 100000 in
theorem lifted (os : Os) (started : os.Started) (H : Type) (enc : TypeId × Value → H) :
    ReturnsInHanded {} Try.checked os 8 .any (Rows.turnPlacesSpec.pre6 enc Try.prog Try.f8 Rows.turnPlacesRow.domain false) (Rows.turnPlacesSpec.post enc Try.prog Try.f8 false true false false) := by
  refine returnsInHanded_of_change (C := Try.checked) own started (by kernel_rfl) Try.func8
    (ChangeSpec.witness6 (enc := enc) (C := Try.checked) false ⟨#[], #[.agg #[.int .i32 0, .int .i32 0, .int .i32 0, .int .i32 0, .int .i32 0, .int .i32 0, .int .i32 0, .int .i32 0], .agg #[.int .u64 0, .int .u64 0, .int .u64 0, .int .u64 0]], []⟩ 8 (by kernel_rfl) (by kernel_rfl) (by kernel_rfl) (by kernel_rfl)) ?_
  intro W base args ds gs before hval0 hW hcnd _
  have hval : ∀ (j : Nat) t v, Try.f8.params[j]? = some t → args[j]? = some v → Value.okWide Try.prog W .any base t v := hval0
  have hW' := hW
  obtain ⟨p, q, hA, hV, rfl, hfz, hnd⟩ := hW
  rw [Try.params8] at hA hval
  obtain ⟨v0, v1, d0, d1, p0, p1, hargs, rfl, rfl, h0, h1⟩ := trodAll_two hA
  obtain ⟨rfl, rfl⟩ := trodVars_none hV
  have : args = #[v0, v1] := by simpa using hargs
  subst this
  obtain ⟨fu0, l0, rfl, e0⟩ := open_agg Try.underlying82 (hval 0 82 v0 rfl rfl) h0
  obtain ⟨a, b, c, d, a2, b2, c2, d2, rfl, ha, hb, hc, hd, ha2, hb2, hc2, hd2⟩ := read_points e0
  obtain ⟨fu1, l1, rfl, e1⟩ := open_agg Try.underlying24 (hval 1 24 v1 rfl rfl) h1
  obtain ⟨p3, q3, r3, s3, rfl, _, _, _, _⟩ := read_four e1
  refine (walk W a b c d a2 b2 c2 d2 p3 q3 r3 s3 ha hb hc hd ha2 hb2 hc2 hd2).mono fun e W' ⟨he, hg⟩ => ?_
  exact ⟨_, he, law_post (tb := 4) laidOut (by
    rw [Try.params8]; intro t ht; simp at ht
    rcases ht with rfl | rfl
    · exact ⟨by kernel_rfl, of_decide_eq_true (by kernel_rfl)⟩
    · exact ⟨by kernel_rfl, of_decide_eq_true (by kernel_rfl)⟩) rfl Try.underlying4 rfl hW' rfl hg⟩
theorem over : Rows.turnPlacesRow.holds Try.pinned (OpenSpec.ofChange Rows.turnPlacesSpec) :=
  OpenClaim.holds_of_wide 8 Try.f8 rfl rfl rfl rfl rfl rfl rfl ⟨rfl, rfl, rfl, rfl, rfl⟩ rfl rfl rfl rfl rfl (by kernel_rfl) Try.func8 (by kernel_rfl)
    (of_decide_eq_true (by kernel_rfl)) (by unfold Func.isWrapper; first | (rw [if_pos (by decide +kernel)]; kernel_rfl) | (rw [if_neg (by decide +kernel)]; exact ⟨rfl, rfl⟩))
    (fun os started H enc _ => lifted os started H enc)
/-- The statement TurnPlaces. -/
theorem proved : Rows.TurnPlacesSaid := over
#print axioms proved

end places
end Go.Proofs.Ytkbcdfniocmamaa
