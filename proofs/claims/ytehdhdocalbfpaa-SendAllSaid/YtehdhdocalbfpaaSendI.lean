/-
  SendNumbers: whatever is called, what Next tells under a number is what Offer was handed when it answered it, from the last one acknowledged and 1 to that and window. For every input.
-/
import Derived.Test.YtehdhdocalbfpaaSendH
import Derived.Test.YtehdhdocalbfpaaSendN
namespace Go.Proofs.Ytehdhdocalbfpaa
open Go.RowKit Go.Shelf Go.ChangeShapes Go.WideShapes Go.ChangeAt
set_option linter.unusedVariables false

theorem cells45 : Try.prog.cellsOf 45 = 7 := by kernel_rfl
theorem seven_of {α : Type} {l : List α} (h : l.length = 7) : ∃ a b c d e f g, l = [a, b, c, d, e, f, g] := by
  match l, h with
  | [a, b, c, d, e, f, g], _ => exact ⟨a, b, c, d, e, f, g, rfl⟩
theorem read_form {w : World} {H : Type} {enc : TypeId × Value → H} {fuel : Nat} {t e : TypeId} {v : Value} {x : DataW H × List MemPlace} (ht : Try.prog.underlying t = some (.slice e)) (h : DataW.trod enc Try.prog w 0 (fun _ => true) true fuel t [v] = some x) : ∃ p l c, v = .slice p l c := by
  rcases Deep.open_slice ht h with ⟨h1, _⟩ | ⟨a, len, cap, m, n, D, Pl, h1, _⟩
  · exact ⟨none, 0, 0, by simpa using h1⟩
  · exact ⟨some a, len, cap, by simpa using h1⟩
set_option maxRecDepth 100000 in
theorem read_start {w : World} {H : Type} {enc : TypeId × Value → H} {fuel : Nat} {cs : List Value} {x : DataW H × List MemPlace} (h : DataW.trod enc Try.prog w 0 (fun _ => true) true fuel 45 cs = some x) :
    ∃ (fr : Bool) (win tmo most ac : Int) (p1 p2 : Option Addr) (l1 c1 l2 c2 : Nat), cs = [.bool fr, .int .i64 win, .int .i64 tmo, .int .i64 most, .int .u64 ac, .slice p1 l1 c1, .slice p2 l2 c2] := by
  obtain ⟨xs, m, _, _, hl, hlen, hf⟩ := DataW.trod_struct Try.underlying45 h
  rw [cells45] at hl
  obtain ⟨b0, b1, b2, b3, b4, b5, b6, rfl⟩ := seven_of hl
  have hlen : xs.length = 7 := hlen
  match xs, hlen with
  | [y0, y1, y2, y3, y4, y5, y6], _ =>
    obtain ⟨fr, h0⟩ := read_bool (cs := [b0]) Try.underlying4 (hf 0 _ rfl)
    obtain ⟨n1, rfl⟩ := read_one (v := b1) Try.underlying3 (hf 1 _ rfl)
    obtain ⟨n2, rfl⟩ := read_one (v := b2) Try.underlying3 (hf 2 _ rfl)
    obtain ⟨n3, rfl⟩ := read_one (v := b3) Try.underlying3 (hf 3 _ rfl)
    obtain ⟨n4, rfl⟩ := read_one (v := b4) Try.underlying41 (hf 4 _ rfl)
    obtain ⟨p1, l1, c1, rfl⟩ := read_form (v := b5) Try.underlying42 (hf 5 _ rfl)
    obtain ⟨p2, l2, c2, rfl⟩ := read_form (v := b6) Try.underlying43 (hf 6 _ rfl)
    have h0 : b0 = .bool fr := by simpa using h0
    subst h0
    exact ⟨fr, n1, n2, n3, n4, p1, p2, l1, c1, l2, c2, rfl⟩
theorem read_steps {w : World} {H : Type} {enc : TypeId × Value → H} {fuel : Nat} {cs : List Value} {x : DataW H × List MemPlace} (h : DataW.trod enc Try.prog w 0 (fun _ => true) true fuel 46 cs = some x) :
    ∃ v l, cs = [v] ∧ RdS w v 11 (fun cs (s : Stp) => cs = s.cells) l := by
  have := read_slice (t := 46) (e := 58) Try.underlying46 (by rw [cells58]; omega) (fun cs (s : Stp) => cs = s.cells) (fun n cs x hx => by
    obtain ⟨kd, k, o, f, n, x, y, c, s, nw, nm, rfl⟩ := read_sstep hx
    exact ⟨⟨kd, ⟨k, o, f, n, x, y, c, s⟩, nw, nm⟩, rfl⟩) h
  rwa [cells58] at this

namespace sendNumbers
theorem walk (w : World) (fr : Bool) (win tmo most ac : Int) (p1 p2 : Option Addr) (l1 c1 l2 c2 : Nat) (lv : Value) (l : List Stp) (hP : RdS w lv 11 (fun cs (s : Stp) => cs = s.cells) l) :
    Calls Try.prog 5 #[.agg #[.bool fr, .int .i64 win, .int .i64 tmo, .int .i64 most, .int .u64 ac, .slice p1 l1 c1, .slice p2 l2 c2], lv] w fun e w' => e = .returned (.bool true) ∧ Fr [] w w' := by
  obtain ⟨lp, lc, hlv, _⟩ := RdS.form hP
  by_cases h : win < 1 ∨ 32 < win ∨ tmo < 1 ∨ 1000 < tmo ∨ most < 1 ∨ 256 < most
  · rw [hlv]; exact walk_bad w fr win tmo most ac p1 p2 l1 c1 l2 c2 lp _ lc h
  · obtain ⟨a, rfl⟩ := Int.eq_ofNat_of_zero_le (show 0 ≤ win by omega)
    obtain ⟨b, rfl⟩ := Int.eq_ofNat_of_zero_le (show 0 ≤ tmo by omega)
    obtain ⟨c, rfl⟩ := Int.eq_ofNat_of_zero_le (show 0 ≤ most by omega)
    by_cases hn : 4096 < l.length
    · rw [hlv]; exact walk_long w fr a b c ac p1 p2 l1 c1 l2 c2 lp _ lc (by omega) (by omega) (by omega) hn
    · exact walk_ok w fr a b c ac p1 p2 l1 c1 l2 c2 lv l (by omega) (by omega) (by omega) hP (by omega)
set_option maxRecDepth 100000 in
theorem lifted (os : Os) (started : os.Started) (H : Type) (enc : TypeId × Value → H) :
    ReturnsInHanded {} Try.checked os 5 .any (Rows.sendNumbersSpec.pre6 enc Try.prog Try.f5 Rows.sendNumbersRow.domain false) (Rows.sendNumbersSpec.post enc Try.prog Try.f5 false true false false) := by
  refine returnsInHanded_of_change (C := Try.checked) own started (by kernel_rfl) Try.func5
    (ChangeSpec.witness6 (enc := enc) (C := Try.checked) false ⟨#[], #[.agg #[.bool false, .int .i64 0, .int .i64 0, .int .i64 0, .int .u64 0, .slice none 0 0, .slice none 0 0], .slice none 0 0], []⟩ 12 (by kernel_rfl) (by kernel_rfl) (by kernel_rfl) (by kernel_rfl)) ?_
  intro W base args ds gs before hval0 hW hcnd _
  have hval : ∀ (j : Nat) t v, Try.f5.params[j]? = some t → args[j]? = some v → Value.okWide Try.prog W .any base t v := hval0
  have hW' := hW
  obtain ⟨p, q, hA, hV, rfl, hfz, hnd⟩ := hW
  rw [Try.params5] at hA hval
  obtain ⟨v0, v1, d0, d1, p0, p1, hargs, rfl, rfl, h0, h1⟩ := trodAll_two hA
  obtain ⟨rfl, rfl⟩ := trodVars_none hV
  have : args = #[v0, v1] := by simpa using hargs
  subst this
  obtain ⟨fu0, l0, rfl, e0⟩ := open_agg Try.underlying45 (hval 0 45 v0 rfl rfl) h0
  obtain ⟨fr, win, tmo, most, ac, q1, q2, l1, c1, l2, c2, rfl⟩ := read_start e0
  obtain ⟨a1, n1, m1, rfl⟩ := okWide_slice Try.underlying46 (hval 1 46 v1 rfl rfl)
  obtain ⟨fuel, hf⟩ := h1
  obtain ⟨u, L, hu, hP⟩ := read_steps hf
  have hvu : Value.slice a1 n1 m1 = u := by simpa [Value.cells] using hu
  subst hvu
  refine (walk W fr win tmo most ac q1 q2 l1 c1 l2 c2 _ L hP).mono fun e W' ⟨he, hg⟩ => ?_
  exact ⟨_, he, law_post (tb := 4) laidOut (by
    rw [Try.params5]; intro t ht; simp at ht
    rcases ht with rfl | rfl
    · exact ⟨by kernel_rfl, of_decide_eq_true (by kernel_rfl)⟩
    · exact ⟨by kernel_rfl, of_decide_eq_true (by kernel_rfl)⟩) rfl Try.underlying4 rfl hW' rfl hg⟩
theorem over : Rows.sendNumbersRow.holds Try.pinned (OpenSpec.ofChange Rows.sendNumbersSpec) :=
  OpenClaim.holds_of_wide 5 Try.f5 rfl rfl rfl rfl rfl rfl rfl ⟨rfl, rfl, rfl, rfl, rfl⟩ rfl rfl rfl rfl rfl (by kernel_rfl) Try.func5 (by kernel_rfl)
    (of_decide_eq_true (by kernel_rfl)) (by unfold Func.isWrapper; first | (rw [if_pos (by decide +kernel)]; kernel_rfl) | (rw [if_neg (by decide +kernel)]; exact ⟨rfl, rfl⟩))
    (fun os started H enc _ => lifted os started H enc)
/-- The statement SendNumbers. -/
theorem proved : Rows.SendNumbersSaid := over
#print axioms proved

end sendNumbers

end Go.Proofs.Ytehdhdocalbfpaa
