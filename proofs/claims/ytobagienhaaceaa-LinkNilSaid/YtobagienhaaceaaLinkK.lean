/-
  LinkOrder, where what it reads is of bulk at most 1048576: with every arrival at the place 0 what arrives is what was taken in, in that order; with any arrivals, losses and doublings nothing arrives that was not put in, and nothing more often than it was put in and doubled.
-/
import Derived.Test.YtobagienhaaceaaLinkJ
import Derived.Test.YtobagienhaaceaaBulk
import Derived.JoinedCond
namespace Go.Proofs.Ytobagienhaaceaa
open Go.RowKit Go.Shelf Go.ChangeShapes Go.WideShapes Go.ChangeAt
set_option linter.unusedVariables false

theorem own : ownKnob Try.prog.godebug = none := by kernel_rfl
theorem laidOut : laidOutB Try.prog = true := by kernel_rfl
theorem cells5 : Try.prog.cellsOf 5 = 1 := by kernel_rfl

theorem read_plan (w : World) {H : Type} {enc : TypeId × Value → H} {fuel : Nat} {v : Value} {x : DataW H × List MemPlace} (h : DataW.trod enc Try.prog w 0 (fun _ => true) true fuel 22 [v] = some x) :
    ∃ P, RdBytes w v P ∧ P.length ≤ Rows.uptoBulk x.1 := by
  have h1 := read_slice Try.underlying22 (by rw [cells5]; decide) (fun cs (x : Int) => cs = [.int .u8 x] ∧ 0 ≤ x ∧ x ≤ 255) (fun n cs x hx => by
    obtain ⟨k, h0, hw⟩ := read_int Try.underlying5 hx
    have := bounds_u8 hw
    exact ⟨k, h0, by omega, by omega⟩) h
  rw [cells5] at h1
  obtain ⟨u, P, hu, hP⟩ := h1
  have hvu : v = u := by simpa using hu
  subst hvu
  refine ⟨P, hP, ?_⟩
  obtain ⟨p, cap, hv, _, _⟩ := hP.form
  rcases Deep.open_slice Try.underlying22 h with ⟨h2, h3⟩ | ⟨a, len, cap2, m, n, D, Pl, h2, _, _, _, _, h3, _⟩
  · have : v = .slice none 0 0 := by simpa using h2
    rw [this] at hv
    injection hv with _ h4 _
    omega
  · have : v = .slice (some a) len cap2 := by simpa using h2
    rw [this] at hv
    cases hv
    rw [h3]
    dsimp only
    have := bulks.slice_le ((List.range P.length).map D) ((List.range (m - P.length)).map fun j => D (P.length + j))
    simp only [List.length_map, List.length_range] at this
    omega

namespace linkOrder
theorem walk (w : World) (most : Int) (pv : Value) (P : List Int) (hP : RdBytes w pv P) (hlen : P.length ≤ 1048576) :
    Calls Try.prog 3 #[.int .i64 most, pv] w fun e w' => e = .returned (.bool true) ∧ Fr [] w w' := by
  by_cases h : most < 1 ∨ 64 < most
  · obtain ⟨p, c, hv, _⟩ := RdS.form hP
    exact walk_no w most pv ⟨p, _, c, hv⟩ h
  · obtain ⟨n, rfl⟩ := Int.eq_ofNat_of_zero_le (show 0 ≤ most by omega)
    exact walk_ok w n pv P hP (by omega) (by omega) hlen

theorem contract (H : Type) (enc : TypeId × Value → H) (W : World) (base : Nat) (args : Array Value) (ds gs : List (DataW H)) (before : List MemPlace)
    (hval : ∀ (j : Nat) t v, Try.f3.params[j]? = some t → args[j]? = some v → Value.okWide Try.prog W .any base t v)
    (hW : DataW.Whole enc Try.prog Try.f3.params.toList Rows.linkOrderSpec.vars false W args.toList ds gs before) (hk : Rows.uptoSmall H (ds ++ gs) = true) :
    Calls Try.prog 3 args W fun e W' => ∃ v, e = .returned v ∧ Rows.linkOrderSpec.post enc Try.prog Try.f3 false true false false W args v W' := by
  have hW' := hW
  obtain ⟨p, q, hA, hV, rfl, hfz, hnd⟩ := hW
  rw [Try.params3] at hA hval
  obtain ⟨v0, v1, d0, d1, p0, p1, hargs, rfl, rfl, h0, h1⟩ := trodAll_two hA
  obtain ⟨rfl, rfl⟩ := trodVars_none hV
  have : args = #[v0, v1] := by simpa using hargs
  subst this
  have hbulk := bulks.bound hk
  obtain ⟨most, rfl, _, _, w0⟩ := open_int Try.underlying3 (hval 0 3 v0 rfl rfl) h0
  obtain ⟨a1, l1, c1, rfl⟩ := okWide_slice Try.underlying22 (hval 1 22 v1 rfl rfl)
  obtain ⟨fuel, hf⟩ := h1
  obtain ⟨P, hP, hlen⟩ := read_plan W hf
  have hlen' : P.length ≤ Rows.uptoBulk d1 := hlen
  have hle : P.length ≤ 1048576 := by
    simp only [List.append_nil, Rows.uptoBulkAll] at hbulk
    omega
  refine (walk W most _ P hP hle).mono fun e W' ⟨he, hg⟩ => ?_
  exact ⟨_, he, law_post (tb := 4) laidOut (by
    rw [Try.params3]; intro t ht; simp at ht
    rcases ht with rfl | rfl
    · exact ⟨by kernel_rfl, of_decide_eq_true (by kernel_rfl)⟩
    · exact ⟨by kernel_rfl, of_decide_eq_true (by kernel_rfl)⟩) rfl Try.underlying4 rfl hW' rfl hg⟩

set_option maxRecDepth 100000 in
theorem lifted (os : Os) (started : os.Started) (H : Type) (enc : TypeId × Value → H) (F : Stop.Interp) :
    ReturnsInHanded {} Try.checked os 3 .any ((Rows.OpenSpec.upto Rows.linkOrderSpec).pre6 enc Try.prog Try.f3 Rows.linkOrderUptoRow.domain false) (((Rows.OpenSpec.upto Rows.linkOrderSpec).at F).post enc Try.prog Try.f3 false true false false) := by
  refine returnsInHanded_of_cond (C := Try.checked) (s := Rows.OpenSpec.upto Rows.linkOrderSpec) (k := Rows.uptoSmall) rfl own started (by kernel_rfl) Try.func3
    (OpenSpec.witness (enc := enc) (C := Try.checked) (s := Rows.OpenSpec.upto Rows.linkOrderSpec) (k := Rows.uptoSmall) rfl false ⟨#[], #[.int .i64 0, .slice none 0 0], []⟩ 8 (by kernel_rfl) (by kernel_rfl) (by kernel_rfl)
      (x := ([.lit (.int .i64 0), .nil], [], [])) (by kernel_rfl) rfl (by kernel_rfl)) ?_
  intro W base args ds gs before hval hW _ hk _
  exact contract H enc W base args ds gs before hval hW hk

/-- The statement LinkOrderUpto. -/
theorem proved : Rows.LinkOrderUptoSaid :=
  OpenClaim.holds_of_cond 3 Try.f3 rfl rfl rfl rfl rfl rfl rfl ⟨rfl, rfl, rfl, rfl, rfl⟩ rfl rfl rfl rfl rfl (by kernel_rfl) Try.func3 (by kernel_rfl)
    (of_decide_eq_true (by kernel_rfl)) (by unfold Func.isWrapper; first | (rw [if_pos (by decide +kernel)]; kernel_rfl) | (rw [if_neg (by decide +kernel)]; exact ⟨rfl, rfl⟩))
    (fun os started H enc _ F => lifted os started H enc F)
#print axioms proved

end linkOrder
end Go.Proofs.Ytobagienhaaceaa
