/-
  Script, the document: Read. Script: Read. Printed by genRea.py.
-/
import Derived.Test.YtbpgpjibljgiiaaGreatDoorRefS
import Derived.RegionTactic
import Derived.ChangeAlike
namespace Go.Proofs.YtbpgpjibljgiiaaGreatDoor
open Go.RowKit
set_option linter.unusedVariables false
set_option linter.unusedSimpArgs false
attribute [local go_sem] Oper.semAt_some
namespace Sc
def St.zero : St := ⟨0, 0, 0, 0, []⟩
/-- The step that is answered. -/
def readF (F : List ByteArray) : St := if (stepF F).isSome then St.zero else stepS F
def readL (t : ByteArray) : St := if 4194304 < t.size then St.zero else readF (fieldsB t)
def readC (t : ByteArray) : Int := if 4194304 < t.size then 4 else fltC (stepF (fieldsB t))
def ReadQ (w : World) (t : ByteArray) (e : Ending) (w' : World) : Prop :=
  ∃ p c, e = .returned (.tuple #[(readL t).val (.slice p (readL t).by'.length c), .int .i64 (readC t)]) ∧ BytV w' w.heap.size (.slice p (readL t).by'.length c) (readL t).by' ∧ Fr [] w w'
theorem RStepQ.uni {w w' : World} {F : List ByteArray} {e : Ending} (h : RStepQ w F e w') :
    ∃ p c, e = .returned (.tuple #[.agg #[.int .u8 (readF F).kd, .int .i64 (readF F).la, .int .i64 (readF F).sl, .int .i64 (readF F).pl, .slice p (readF F).by'.length c], .int .i64 (fltN (stepF F)), .int .i64 (fltC (stepF F))]) ∧ BytV w' w.heap.size (.slice p (readF F).by'.length c) (readF F).by' ∧ Fr [] w w' := by
  obtain ⟨bv, he, hb, hf⟩ := h
  unfold readF
  cases hs : (stepF F).isSome with
  | true => exact ⟨none, 0, by rw [he, hs]; rfl, BytV.nil _ _, hf⟩
  | false =>
    rw [hs] at hb
    obtain ⟨p, c, rfl⟩ := hb.form
    exact ⟨p, c, by rw [he, hs]; rfl, hb, hf⟩
theorem ReadQ.bad {w w' : World} {t : ByteArray} {c : Int} {v : Value} (h : readL t = St.zero) (hc : readC t = c) (hv : v = zeroStep) (hf : Fr [] w w') : ReadQ w t (.returned (.tuple #[v, .int .i64 c])) w' := by
  subst hc hv
  exact ⟨none, 0, by rw [h]; rfl, by rw [h]; exact BytV.nil _ _, hf⟩
theorem ReadQ.good {w w' : World} {t : ByteArray} {s : St} {c : Int} {v : Value} {p : Option Addr} {k : Nat} (h : readL t = s) (hc : readC t = c) (hv : v = s.val (.slice p s.by'.length k)) (hb : BytV w' w.heap.size (.slice p s.by'.length k) s.by') (hf : Fr [] w w') : ReadQ w t (.returned (.tuple #[v, .int .i64 c])) w' := by
  subst hc hv h
  exact ⟨p, k, rfl, hb, hf⟩
theorem slot_of {W : World} {n0 : Nat} {v : Value} {F : List ByteArray} (h : StrV W n0 v F) (h0 : 0 < F.length) :
    ∃ g c, v = .slice (some ⟨g, 0, none⟩) F.length c ∧ F.length ≤ c ∧ ∀ i s, F[i]? = some s → W.cell? ⟨g, i, none⟩ = some (.string s) := by
  obtain ⟨hl, hn | ⟨g, cap, cur, hv, -, hg, hc, -, hs, ht⟩⟩ := h.1
  · omega
  · refine ⟨g, cap, hv, hc, fun i s hi => ?_⟩
    have h1 : (strs F)[i]? = some (.string s) := by simp [strs, hi]
    rw [← ht, List.getElem?_take] at h1
    split at h1
    · have h2 : cur[i]? = some (.string s) := by simpa using h1
      simp [World.cell?, hg, h2]
    · cases h1
end Sc
end Go.Proofs.YtbpgpjibljgiiaaGreatDoor
namespace Go.Proofs.YtbpgpjibljgiiaaGreatDoor
open Go.RowKit
set_option linter.unusedVariables false
set_option linter.unusedSimpArgs false
attribute [local go_sem] Oper.semAt_some
namespace Sc
theorem StepQ.uni {w w' : World} {r gF K : Nat} {F : List ByteArray} {e : Ending} (h : StepQ w r gF F K (stepF F) (stepS F).val (stepS F).by' e w') :
    ∃ p c fv, e = .returned (.tuple #[.agg #[.int .u8 (readF F).kd, .int .i64 (readF F).la, .int .i64 (readF F).sl, .int .i64 (readF F).pl, .slice p (readF F).by'.length c], fv]) ∧ BytV w' w.heap.size (.slice p (readF F).by'.length c) (readF F).by' ∧ RPost w r gF F K (stepF F) fv w' := by
  obtain ⟨fv, bv, he, hp, hb⟩ := h
  unfold readF
  cases hs : (stepF F).isSome with
  | true => exact ⟨none, 0, fv, by rw [he, hs]; rfl, BytV.nil _ _, hp⟩
  | false =>
    rw [hs] at hb
    obtain ⟨p, c, rfl⟩ := hb.form
    exact ⟨p, c, fv, by rw [he, hs]; rfl, hb, hp⟩
end Sc
end Go.Proofs.YtbpgpjibljgiiaaGreatDoor
