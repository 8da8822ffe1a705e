/-
  Script: a field that is a number.
-/
import Derived.Test.YtbpgpjibljgiiaaGreatDoorScnA
namespace Go.Proofs.YtbpgpjibljgiiaaGreatDoor
open Go.RowKit
set_option linter.unusedVariables false
set_option linter.unusedSimpArgs false
attribute [local go_sem] Oper.semAt_some
namespace Sc
/-- The field with a number, as a text. -/
def fld (F : List ByteArray) (k : Nat) : ByteArray := F.getD k ⟨#[]⟩
/-- What number answers: the number, the fault. -/
def numN (F : List ByteArray) (k : Nat) : Int := if k < F.length then (scan (fld F k).data.toList).getD 0 else 0
def numF (F : List ByteArray) (k : Nat) : Flt := if k < F.length then (if (scan (fld F k).data.toList).isSome then none else some (k, 281)) else some (k, 282)
theorem RPost.after {w w1 w' : World} {r gF k : Nat} {F : List ByteArray} {f : Flt} {fv : Value} (g : Fr [r] w w1) (h : RPost w1 r gF F k f fv w') : RPost w r gF F k f fv w' := by
  refine ⟨h.1, ?_, g.trans h.2.2 (fun x hx => .inl hx)⟩
  have h2 := h.2.1
  match f, h2 with
  | none, h2 => exact h2
  | some (a, c), ⟨b, q1, q2, q3⟩ => exact ⟨b, q1, q2, Nat.le_trans g.size q3⟩
theorem number_any (w : World) (r gF k : Nat) (F : List ByteArray) (h : RowAt w r gF F k) (hF : ∀ s ∈ F, s.size ≤ 4294967296) :
    Calls Tryz.prog 35 #[.pointer (some ⟨r, 0, none⟩)] w fun e w' => ∃ fv, e = .returned (.tuple #[.int .i64 (numN F k), fv]) ∧ RPost w r gF F (nextK F k) (numF F k) fv w' := by
  have H1 := Lib.hid (next_any w r gF k F h)
  have HW := Lib.hid (fun W (h : RowAt W r gF F (k + 1)) => wrong_any W r gF k F h)
  by_cases hlt : k < F.length
  · have hs : (fld F k).size ≤ 4294967296 := hF _ (by unfold fld; rw [List.getD_eq_getElem?_getD, List.getElem?_eq_getElem hlt]; exact List.getElem_mem hlt)
    have HS := Lib.hid (fun W => scan_any W (fld F k) hs)
    rw [numN, numF, if_pos hlt, if_pos hlt]
    rw [nextK, nextF, if_pos hlt, if_pos hlt] at H1
    rw [nextK, if_pos hlt]
    rw [show F.getD k ⟨#[]⟩ = fld F k from rfl] at H1
    generalize fld F k = s at H1 HS ⊢
    cases hv : scan s.data.toList with
    | some v =>
      have HS2 := Lib.hid (fun W => show Calls Tryz.prog 60 #[.string s] W fun e w' => e = .returned (.tuple #[.int .i64 v, .bool true]) ∧ w' = W from by have := HS.out W; rw [hv] at this; exact this)
      clear h hs HS hv
      go_enter Tryz.func35, Tryz.ntmps35
      go_wp2_with fail
      (with_reducible refine H1.out.mono ?_)
      rintro e w1 ⟨fv, rfl, hr, rfl, f1⟩
      have HR := Lib.hid (And.intro hr f1)
      clear hr f1
      go_wp2_with (go_at_call 60; refine (HS2.out _).mono ?_; rintro e w2 ⟨rfl, rfl⟩)
      go_ret2
      exact ⟨_, rfl, HR.out.1, rfl, HR.out.2⟩
    | none =>
      have HS2 := Lib.hid (fun W => show Calls Tryz.prog 60 #[.string s] W fun e w' => e = .returned (.tuple #[.int .i64 0, .bool false]) ∧ w' = W from by have := HS.out W; rw [hv] at this; exact this)
      clear h hs HS hv
      go_enter Tryz.func35, Tryz.ntmps35
      go_wp2_with fail
      (with_reducible refine H1.out.mono ?_)
      rintro e w1 ⟨fv, rfl, hr, rfl, f1⟩
      have HR := Lib.hid (And.intro hr f1)
      clear hr f1
      go_wp2_with (first | (go_at_call 60; refine (HS2.out _).mono ?_; rintro e w2 ⟨rfl, rfl⟩) | (go_at_call 34; refine (HW.out _ HR.out.1).mono ?_; rintro e w2 ⟨fv2, rfl, hp⟩))
      go_ret2
      exact ⟨_, rfl, RPost.after HR.out.2 hp⟩
  · rw [numN, numF, if_neg hlt, if_neg hlt, nextK, if_neg hlt]
    rw [nextK, nextF, if_neg hlt, if_neg hlt] at H1
    generalize F.getD k ⟨#[]⟩ = s at H1
    clear h
    go_enter Tryz.func35, Tryz.ntmps35
    go_wp2_with fail
    (with_reducible refine H1.out.mono ?_)
    rintro e w1 ⟨fv, rfl, hr, ⟨b, rfl, hb, hn⟩, f1⟩
    have HR := Lib.hid (And.intro hr (And.intro hb (And.intro hn f1)))
    clear hr hb hn f1
    go_wp2
    go_ret2
    exact ⟨_, rfl, HR.out.1, ⟨b, rfl, HR.out.2.1, HR.out.2.2.1⟩, HR.out.2.2.2⟩
end Sc
end Go.Proofs.YtbpgpjibljgiiaaGreatDoor
