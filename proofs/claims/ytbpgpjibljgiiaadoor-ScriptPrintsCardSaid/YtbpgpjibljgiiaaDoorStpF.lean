/-
  Script: a step's line: every line.
-/
import Derived.Test.YtbpgpjibljgiiaaDoorStpE
namespace Go.Proofs.YtbpgpjibljgiiaaDoor
open Go.RowKit
set_option linter.unusedVariables false
set_option linter.unusedSimpArgs false
namespace Sc
theorem kindN_cases (x : ByteArray) : kindN x = 0 ∨ kindN x = 1 ∨ kindN x = 2 ∨ kindN x = 3 ∨ kindN x = 4 ∨ kindN x = 5 ∨ kindN x = 6 ∨ kindN x = 7 ∨ kindN x = 9 := by
  unfold kindN
  simp only [kindFrom]
  split
  · simp
  split
  · simp
  split
  · simp
  split
  · simp
  split
  · simp
  split
  · simp
  split
  · simp
  rename_i h7
  split
  · rename_i h8
    exact absurd h8 h7
  split
  · simp
  · simp
/-- A step. -/
structure St where
  kd : Nat
  la : Int
  sl : Int
  pl : Int
  by' : List Int
deriving DecidableEq
def St.cells (s : St) (bv : Value) : List Value := [.int .u8 s.kd, .int .i64 s.la, .int .i64 s.sl, .int .i64 s.pl, bv]
def St.val (s : St) (bv : Value) : Value := .agg #[.int .u8 s.kd, .int .i64 s.la, .int .i64 s.sl, .int .i64 s.pl, bv]
/-- What step answers: the fault, the step, the next field. -/
def stepF (F : List ByteArray) : Flt :=
  match kindN (fld F 0) with
  | 0 => some (0, 280)
  | 1 => thenF (bytF F 1) (overF F (nextK F 1))
  | 2 => thenF (numF F 1) (overF F (nextK F 1))
  | 3 => overF F 1
  | 4 => overF F 1
  | 5 => thenF (twoF F 1) (overF F (twoK F 1))
  | 6 => thenF (twoF F 1) (overF F (twoK F 1))
  | _ => thenF (wayF F 1) (overF F (wayK F 1))
def stepS (F : List ByteArray) : St :=
  match kindN (fld F 0) with
  | 0 => ⟨0, 0, 0, 0, []⟩
  | 1 => ⟨1, 0, 0, 0, bytN F 1⟩
  | 2 => ⟨2, numN F 1, 0, 0, []⟩
  | 3 => ⟨3, 0, 0, 0, []⟩
  | 4 => ⟨4, 0, 0, 0, []⟩
  | 5 => ⟨5, 0, twoS F 1, twoP F 1, []⟩
  | 6 => ⟨6, 0, twoS F 1, twoP F 1, []⟩
  | k => ⟨wayD k F 1, 0, wayS F 1, wayP F 1, []⟩
def stepK (F : List ByteArray) : Nat :=
  match kindN (fld F 0) with
  | 0 => 1
  | 1 => nextK F 1
  | 2 => nextK F 1
  | 3 => 1
  | 4 => 1
  | 5 => twoK F 1
  | 6 => twoK F 1
  | _ => wayK F 1
theorem laneF_then (F : List ByteArray) : laneF F = thenF (numF F 1) (overF F (nextK F 1)) := rfl
theorem StepQ.of {w w' : World} {r gF K : Nat} {F : List ByteArray} {fl : Flt} {st : Value → Value} {bl : List Int} {e : Ending} {v fv : Value} (he : e = .returned (.tuple #[v, fv])) (h : RPost w r gF F K fl fv w') (hv : v = if fl.isSome then zeroStep else st (.slice none 0 0)) (hb : bl = []) : StepQ w r gF F K fl st bl e w' := by
  subst hb
  exact ⟨fv, .slice none 0 0, by rw [he, hv], h, by split <;> exact BytV.nil _ _⟩
theorem step_any (w : World) (r gF : Nat) (F : List ByteArray) (h : RowAt w r gF F 0) (hF : 0 < F.length) (hFs : ∀ s ∈ F, s.size ≤ 4294967296) :
    Calls Tryd.prog 40 #[.pointer (some ⟨r, 0, none⟩)] w fun e w' => StepQ w r gF F (stepK F) (stepF F) (stepS F).val (stepS F).by' e w' := by
  rcases kindN_cases (fld F 0) with hk | hk | hk | hk | hk | hk | hk | hk | hk
  · rw [stepK, stepF, stepS, hk]
    exact (step_none w r gF F h hF hk).mono fun e w' ⟨fv, he, hp⟩ => .of he hp rfl rfl
  · rw [stepK, stepF, stepS, hk]
    exact step_cmd w r gF _ _ F h hF hk hFs rfl rfl
  · rw [stepK, stepF, stepS, hk]
    exact (step_lane w r gF F h hF hk hFs).mono fun e w' ⟨v, fv, he, hp, hv⟩ => .of he hp hv rfl
  · rw [stepK, stepF, stepS, hk]
    exact (step_turn w r gF 3 F h hF hk (.inl rfl)).mono fun e w' ⟨v, fv, he, hp, hv⟩ => .of he hp hv rfl
  · rw [stepK, stepF, stepS, hk]
    exact (step_turn w r gF 4 F h hF hk (.inr rfl)).mono fun e w' ⟨v, fv, he, hp, hv⟩ => .of he hp hv rfl
  · rw [stepK, stepF, stepS, hk]
    exact step_arr w r gF 5 5 _ _ _ _ F h hF hk (by decide) (fun W sb h1 h2 => arr_one W r gF sb 1 5 0 _ F h1 h2 (by decide) hFs rfl)
  · rw [stepK, stepF, stepS, hk]
    exact step_arr w r gF 6 6 _ _ _ _ F h hF hk (by decide) (fun W sb h1 h2 => arr_one W r gF sb 1 6 0 _ F h1 h2 (by decide) hFs rfl)
  · rw [stepK, stepF, stepS, hk]
    exact step_arr w r gF 7 (wayD 7 F 1) _ _ _ _ F h hF hk (by decide) (fun W sb h1 h2 => arr_two W r gF sb 1 7 0 _ F h1 h2 (by decide) hFs rfl)
  · rw [stepK, stepF, stepS, hk]
    exact step_arr w r gF 9 (wayD 9 F 1) _ _ _ _ F h hF hk (by decide) (fun W sb h1 h2 => arr_two W r gF sb 1 9 0 _ F h1 h2 (by decide) hFs rfl)
end Sc
end Go.Proofs.YtbpgpjibljgiiaaDoor
