/-
  TurnMaps: of any similarities and numbers where they lead, joined and undone; sectors. For every input.
-/
import Derived.Test.YtkbcdfniocmamaaMapN
import Derived.Test.YtkbcdfniocmamaaRead
namespace Go.Proofs.Ytkbcdfniocmamaa
open Go.RowKit Go.ChangeShapes Go.WideShapes Go.ChangeAt
set_option linter.unusedVariables false

theorem own : ownKnob Try.prog.godebug = none := by kernel_rfl
theorem laidOut : laidOutB Try.prog = true := by kernel_rfl
theorem two_of {α : Type} {l : List α} (h : l.length = 2) : ∃ a b, l = [a, b] := by
  match l, h with
  | [a, b], _ => exact ⟨a, b, rfl⟩
theorem four_of {α : Type} {l : List α} (h : l.length = 4) : ∃ a b c d, l = [a, b, c, d] := by
  match l, h with
  | [a, b, c, d], _ => exact ⟨a, b, c, d, rfl⟩
section
variable {H : Type} {enc : TypeId × Value → H} {P : Program} {w : World} {base : Nat} {spare : Nat → Bool} {held : Bool}
/-- An argument of an array's type: its cells. -/
theorem open_arr {r : Reach} {b0 : Nat} {t e : TypeId} {n : Nat} {v : Value} {d : DataW H} {p : List MemPlace} (hs : P.underlying t = some (.array n e)) (hv : Value.okWide P w r b0 t v) (h : DataW.Trod enc P w base spare held t v d p) :
    ∃ fuel l, v = .agg (List.toArray l) ∧ DataW.trod enc P w base spare held fuel t l = some (d, p) := by
  obtain ⟨cs, rfl⟩ : ∃ cs, v = .agg cs := by
    simp only [Value.okWide, hs] at hv
    obtain ⟨cs, h1, h2⟩ := hv
    exact ⟨cs, h1⟩
  obtain ⟨fuel, hf⟩ := h
  exact ⟨fuel, cs.toList, by simp, hf⟩
end
theorem cells24 : Try.prog.cellsOf 24 = 4 := by kernel_rfl
theorem cells25 : Try.prog.cellsOf 25 = 2 := by kernel_rfl
theorem cells22 : Try.prog.cellsOf 22 = 1 := by kernel_rfl
theorem nat_u64 {n : Int} (h : (Lit.int .u64 n).wf = true) : ∃ k : Nat, n = (k : Int) ∧ k < 2 ^ 64 := by
  have := bounds_u64 h
  exact ⟨n.toNat, by omega, by omega⟩
set_option maxRecDepth 100000 in
theorem read_four {w : World} {H : Type} {enc : TypeId × Value → H} {fuel : Nat} {cs : List Value} {x : DataW H × List MemPlace} (h : DataW.trod enc Try.prog w 0 (fun _ => true) true fuel 24 cs = some x) :
    ∃ a b c d : Nat, cs = [.int .u64 a, .int .u64 b, .int .u64 c, .int .u64 d] ∧ a < 2 ^ 64 ∧ b < 2 ^ 64 ∧ c < 2 ^ 64 ∧ d < 2 ^ 64 := by
  obtain ⟨xs, m, _, _, hl, hlen, hf⟩ := DataW.trod_struct Try.underlying24 h
  rw [cells24] at hl
  obtain ⟨a, b, c, d, rfl⟩ := four_of hl
  obtain ⟨y0, y1, y2, y3, rfl⟩ := four_of hlen
  obtain ⟨n0, h0, w0⟩ := read_int Try.underlying22 (hf 0 _ rfl)
  obtain ⟨n1, h1, w1⟩ := read_int Try.underlying22 (hf 1 _ rfl)
  obtain ⟨n2, h2, w2⟩ := read_int Try.underlying22 (hf 2 _ rfl)
  obtain ⟨n3, h3, w3⟩ := read_int Try.underlying22 (hf 3 _ rfl)
  have q0 : [a] = [Value.int .u64 n0] := h0
  have q1 : [b] = [Value.int .u64 n1] := h1
  have q2 : [c] = [Value.int .u64 n2] := h2
  have q3 : [d] = [Value.int .u64 n3] := h3
  cases q0; cases q1; cases q2; cases q3
  obtain ⟨k0, rfl, l0⟩ := nat_u64 w0
  obtain ⟨k1, rfl, l1⟩ := nat_u64 w1
  obtain ⟨k2, rfl, l2⟩ := nat_u64 w2
  obtain ⟨k3, rfl, l3⟩ := nat_u64 w3
  exact ⟨k0, k1, k2, k3, rfl, l0, l1, l2, l3⟩
set_option maxRecDepth 100000 in
theorem read_bits {w : World} {H : Type} {enc : TypeId × Value → H} {fuel : Nat} {cs : List Value} {x : DataW H × List MemPlace} (h : DataW.trod enc Try.prog w 0 (fun _ => true) true fuel 25 cs = some x) :
    ∃ a b : Nat, cs = [.int .u64 a, .int .u64 b] := by
  obtain ⟨xs, m, _, _, hl, hlen, hf⟩ := DataW.trod_array Try.underlying25 h
  rw [cells25] at hl
  obtain ⟨a, b, rfl⟩ := two_of hl
  obtain ⟨y0, y1, rfl⟩ := two_of hlen
  have f0 := hf 0 (by omega)
  have f1 := hf 1 (by omega)
  rw [cells22] at f0 f1
  obtain ⟨n0, h0, w0⟩ := read_int Try.underlying22 f0
  obtain ⟨n1, h1, w1⟩ := read_int Try.underlying22 f1
  have q0 : [a] = [Value.int .u64 n0] := h0
  have q1 : [b] = [Value.int .u64 n1] := h1
  cases q0; cases q1
  obtain ⟨k0, rfl, l0⟩ := nat_u64 w0
  obtain ⟨k1, rfl, l1⟩ := nat_u64 w1
  exact ⟨k0, k1, rfl⟩
namespace turnMaps
set_option maxRecDepth 100000 in
theorem lifted (os : Os) (started : os.Started) (H : Type) (enc : TypeId × Value → H) :
    ReturnsInHanded {} Try.checked os 3 .any (Rows.turnMapsSpec.pre6 enc Try.prog Try.f3 Rows.turnMapsRow.domain false) (Rows.turnMapsSpec.post enc Try.prog Try.f3 false true false false) := by
  refine returnsInHanded_of_change (C := Try.checked) own started (by kernel_rfl) Try.func3
    (ChangeSpec.witness6 (enc := enc) (C := Try.checked) false ⟨#[], #[.agg #[.int .u64 0, .int .u64 0, .int .u64 0, .int .u64 0], .agg #[.int .u64 0, .int .u64 0, .int .u64 0, .int .u64 0], .agg #[.int .u64 0, .int .u64 0]], []⟩ 8 (by kernel_rfl) (by kernel_rfl) (by kernel_rfl) (by kernel_rfl)) ?_
  intro W base args ds gs before hval0 hW hcnd _
  have hval : ∀ (j : Nat) t v, Try.f3.params[j]? = some t → args[j]? = some v → Value.okWide Try.prog W .any base t v := hval0
  have hW' := hW
  obtain ⟨p, q, hA, hV, rfl, hfz, hnd⟩ := hW
  rw [Try.params3] at hA hval
  obtain ⟨v0, v1, v2, d0, d1, d2, p0, p1, p2, hargs, rfl, rfl, h0, h1, h2⟩ := trodAll_three hA
  obtain ⟨rfl, rfl⟩ := trodVars_none hV
  have : args = #[v0, v1, v2] := by simpa using hargs
  subst this
  obtain ⟨fu0, l0, rfl, e0⟩ := open_agg Try.underlying24 (hval 0 24 v0 rfl rfl) h0
  obtain ⟨a, b, c, d, rfl, ha, hb, hc, hd⟩ := read_four e0
  obtain ⟨fu1, l1, rfl, e1⟩ := open_agg Try.underlying24 (hval 1 24 v1 rfl rfl) h1
  obtain ⟨a2, b2, c2, d2, rfl, _, _, _, _⟩ := read_four e1
  obtain ⟨fu2, l2, rfl, e2⟩ := open_arr Try.underlying25 (hval 2 25 v2 rfl rfl) h2
  obtain ⟨p3, q3, rfl⟩ := read_bits e2
  refine (walk W a b c d a2 b2 c2 d2 p3 q3 ha hb hc hd).mono fun e W' ⟨he, hg⟩ => ?_
  exact ⟨_, he, law_post (tb := 4) laidOut (by
    rw [Try.params3]; intro t ht; simp at ht
    rcases ht with rfl | rfl
    · exact ⟨by kernel_rfl, of_decide_eq_true (by kernel_rfl)⟩
    · exact ⟨by kernel_rfl, of_decide_eq_true (by kernel_rfl)⟩) rfl Try.underlying4 rfl hW' rfl hg⟩
theorem over : Rows.turnMapsRow.holds Try.pinned (OpenSpec.ofChange Rows.turnMapsSpec) :=
  OpenClaim.holds_of_wide 3 Try.f3 rfl rfl rfl rfl rfl rfl rfl ⟨rfl, rfl, rfl, rfl, rfl⟩ rfl rfl rfl rfl rfl (by kernel_rfl) Try.func3 (by kernel_rfl)
    (of_decide_eq_true (by kernel_rfl)) (by unfold Func.isWrapper; first | (rw [if_pos (by decide +kernel)]; kernel_rfl) | (rw [if_neg (by decide +kernel)]; exact ⟨rfl, rfl⟩))
    (fun os started H enc _ => lifted os started H enc)
/-- The statement TurnMaps. -/
theorem proved : Rows.TurnMapsSaid := over
#print axioms proved

end turnMaps
end Go.Proofs.Ytkbcdfniocmamaa
