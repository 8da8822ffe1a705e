/-
  Script: a line that is gone through by fields: next, wrong, over.
-/
import Derived.Test.YtbpgpjibljgiiaaGreatDoorBaseM
import Derived.Deep.CutBlock
import Derived.Test.YtbpgpjibljgiiaaGreatDoorProg
namespace Go.Proofs.YtbpgpjibljgiiaaGreatDoor
open Go.RowKit
set_option linter.unusedVariables false
set_option linter.unusedSimpArgs false
attribute [local go_sem] Oper.semAt_some
namespace Sc
def strs (L : List ByteArray) : List Value := L.map Value.string
/-- Which field is wrong, and how. -/
abbrev Flt := Option (Nat × Int)
/-- A row at r: the fields F, the next one k. -/
structure RowAt (W : World) (r gF : Nat) (F : List ByteArray) (k : Nat) : Prop where
  hd : Blk W r #[.slice (some ⟨gF, 0, none⟩) F.length F.length, .int .i64 k] 49
  fs : Blk W gF (strs F).toArray 9
  le : k ≤ F.length
  sm : F.length ≤ 4294967296
/-- A fault as it is told. -/
def FaultV (W : World) (n0 : Nat) (v : Value) : Flt → Prop
  | none => v = .pointer none
  | some (a, c) => ∃ b, v = .pointer (some ⟨b, 0, none⟩) ∧ Blk W b #[.int .i64 a, .int .i64 c] 53 ∧ n0 ≤ b
/-- What a method of a row leaves. -/
def RPost (W : World) (r gF : Nat) (F : List ByteArray) (k : Nat) (f : Flt) (fv : Value) (W' : World) : Prop :=
  RowAt W' r gF F k ∧ FaultV W' W.heap.size fv f ∧ Fr [r] W W'
section
variable {W W' : World} {r gF k : Nat} {F : List ByteArray}
theorem RowAt.ne (h : RowAt W r gF F k) : r ≠ gF := h.hd.ne h.fs (by decide)
theorem RowAt.fr {S : List Nat} (h : RowAt W r gF F k) (f : Fr S W W') (h1 : r ∉ S) (h2 : gF ∉ S) : RowAt W' r gF F k := ⟨f.blk h.hd h1, f.blk h.fs h2, h.le, h.sm⟩
theorem RowAt.drewN (h : RowAt W r gF F k) (n : Nat) : RowAt (W.drewN n) r gF F k := ⟨h.hd.drewN n, h.fs.drewN n, h.le, h.sm⟩
theorem RowAt.at (h : RowAt W r gF F k) {i : Nat} {s : ByteArray} (hi : F[i]? = some s) : W.cell? ⟨gF, i, none⟩ = some (.string s) := h.fs.at i (by simp [strs, hi])
theorem RowAt.set (h : RowAt W r gF F k) (k' : Nat) (hk : k' ≤ F.length) : RowAt (W.setCell ⟨r, 1, none⟩ (.int .i64 k')) r gF F k' :=
  ⟨h.hd.set 1 _, h.fs.other _ _ (fun e => h.ne e.symm), hk, h.sm⟩
theorem FaultV.fr {n0 : Nat} {v : Value} {f : Flt} {S : List Nat} (h : FaultV W n0 v f) (g : Fr S W W') (hS : ∀ x ∈ S, x < n0) : FaultV W' n0 v f := by
  match f, h with
  | none, h => exact h
  | some (a, c), h =>
    obtain ⟨b, h1, h2, h3⟩ := h
    exact ⟨b, h1, g.blk h2 (fun hm => by have := hS b hm; omega), h3⟩
end
theorem RPost.flt {w wA : World} {r gF k a : Nat} {c : Int} {F : List ByteArray} (h : RowAt wA r gF F k) (f : Fr [] w wA) :
    RPost w r gF F k (some (a, c)) (.pointer (some ⟨wA.heap.size, 0, none⟩)) (wA.alloc (.cells #[.int .i64 a, .int .i64 c] 53)) :=
  ⟨h.fr ((Fr.refl [] _).alloc _) (by simp) (by simp), ⟨_, rfl, Blk.new _ _ _, f.size⟩, (f.mono (by simp)).alloc _⟩
theorem RPost.drew {w w' : World} {r gF k : Nat} {F : List ByteArray} {f : Flt} {fv : Value} (h : RPost w r gF F k f fv w') : RPost w r gF F k f fv w'.drew :=
  ⟨h.1.drewN 1, h.2.1.fr (Fr.refl [] _).drew (by simp), h.2.2.drew⟩
def nextK (F : List ByteArray) (k : Nat) : Nat := if k < F.length then k + 1 else k
def nextF (F : List ByteArray) (k : Nat) : Flt := if k < F.length then none else some (k, 282)
theorem next_any (w : World) (r gF k : Nat) (F : List ByteArray) (h : RowAt w r gF F k) :
    Calls Tryz.prog 33 #[.pointer (some ⟨r, 0, none⟩)] w fun e w' => ∃ fv, e = .returned (.tuple #[.string (F.getD k ⟨#[]⟩), fv]) ∧ RPost w r gF F (nextK F k) (nextF F k) fv w' := by
  have HR := Lib.hid h
  have c0 := h.hd.at 0 (v := .slice (some ⟨gF, 0, none⟩) F.length F.length) rfl
  have c1 := h.hd.at 1 (v := .int .i64 k) rfl
  have cf := h.hd.free 1
  have hsm := h.sm
  have hle := h.le
  by_cases hlt : k < F.length
  · have c2 := h.at (List.getElem?_eq_getElem hlt)
    rw [nextK, nextF, if_pos hlt, if_pos hlt, List.getD_eq_getElem?_getD, List.getElem?_eq_getElem hlt, Option.getD_some]
    obtain ⟨s, hs⟩ : ∃ s, F[k] = s := ⟨_, rfl⟩
    rw [hs] at c2 ⊢
    have HS := Lib.hid (show F[k]? = some s by rw [List.getElem?_eq_getElem hlt, hs])
    clear hs
    obtain ⟨n, hn⟩ : ∃ n, n = F.length := ⟨_, rfl⟩
    have HN := Lib.hid hn
    rw [← hn] at c0 hlt hsm
    have k0 : (0 : Int) ≤ (k : Int) := by omega
    have k1 : (k : Int) < (n : Int) := by omega
    have HK := Lib.hid (show k + 1 ≤ F.length from by omega)
    have HC2 := Lib.hid c2
    clear h hle hn c2
    go_enter Tryz.func33, Tryz.ntmps33
    go_wp2_with fail
    go_quiet (fail)
    generalize hA : w.drewN _ = wA
    have HA := Lib.hid (show Fr [] w wA ∧ RowAt wA r gF F k ∧ wA.cell? ⟨gF, k, none⟩ = some (.string s) from by rw [← hA]; exact ⟨(Fr.refl _ _).drewN _, HR.out.drewN _, HC2.out⟩)
    have a0 : wA.cell? ⟨r, 0, none⟩ = some (.slice (some ⟨gF, 0, none⟩) n n) := by rw [← hA]; exact c0
    have a1 : wA.cell? ⟨r, 1, none⟩ = some (.int .i64 k) := by rw [← hA]; exact c1
    have af : wA.frozen? ⟨r, 1, none⟩ = false := by rw [← hA]; exact cf
    clear c0 c1 cf hA
    go_upto_region 4 with fail
    generalize hB : wA.setCell _ _ = wB
    have hrb : RowAt wB r gF F (k + 1) := by rw [← hB]; exact HA.out.2.1.set (k + 1) HK.out
    have HP := Lib.hid (show RowAt wB r gF F (k + 1) ∧ Fr [r] w wB from ⟨hrb, (HA.out.1.mono (by simp)).trans (show Fr [r] wA wB from by rw [← hB]; exact (Fr.refl _ _).setCell _ _ (.inl (by simp))) (fun x hx => .inl hx)⟩)
    have b0 : wB.cell? ⟨r, 0, none⟩ = some (.slice (some ⟨gF, 0, none⟩) n n) := by rw [HN.out]; exact hrb.hd.at 0 rfl
    have b1 : wB.cell? ⟨r, 1, none⟩ = some (.int .i64 ((k : Int) + 1)) := hrb.hd.at 1 rfl
    have b2 : wB.cell? ⟨gF, k, none⟩ = some (.string s) := hrb.at HS.out
    clear a0 a1 af hB hrb
    go_quiet (fail)
    go_wp2
    go_ret2
    exact ⟨_, rfl, HP.out.1.drewN _, rfl, HP.out.2.drewN _⟩
  · rw [nextK, nextF, if_neg hlt, if_neg hlt, List.getD_eq_getElem?_getD, List.getElem?_eq_none (by omega), Option.getD_none]
    obtain ⟨n, hn⟩ : ∃ n, n = F.length := ⟨_, rfl⟩
    rw [← hn] at c0 hlt hsm hle
    have k1 : (n : Int) ≤ (k : Int) := by omega
    clear h hn hle
    go_enter Tryz.func33, Tryz.ntmps33
    go_wp2_with fail
    go_quiet (fail)
    generalize hA : w.drewN _ = wA
    have HA := Lib.hid (show Fr [] w wA ∧ RowAt wA r gF F k from by rw [← hA]; exact ⟨(Fr.refl _ _).drewN _, HR.out.drewN _⟩)
    have a1 : wA.cell? ⟨r, 1, none⟩ = some (.int .i64 k) := by rw [← hA]; exact c1
    clear c0 c1 cf hA
    go_wp2_with fail
    go_region
    go_wp2
    go_ret2
    exact ⟨_, rfl, RPost.drew (RPost.flt HA.out.2 HA.out.1)⟩
theorem wrong_any (w : World) (r gF k : Nat) (F : List ByteArray) (h : RowAt w r gF F (k + 1)) :
    Calls Tryz.prog 34 #[.pointer (some ⟨r, 0, none⟩)] w fun e w' => ∃ fv, e = .returned fv ∧ RPost w r gF F (k + 1) (some (k, 281)) fv w' := by
  have HR := Lib.hid h
  have c1 := h.hd.at 1 (v := .int .i64 ((k + 1 : Nat) : Int)) rfl
  have hsm := h.sm
  have hle := h.le
  have e1 : IntKind.i64.wrap (((k + 1 : Nat) : Int) - 1) = (k : Int) := by rw [IntKind.wrap_i64]; omega
  rw [show (((k + 1 : Nat) : Int)) = (k : Int) + 1 by omega] at c1
  have k1 : (k : Int) ≤ 4294967296 := by omega
  clear h hle hsm
  go_enter Tryz.func34, Tryz.ntmps34
  go_wp2
  go_ret
  exact ⟨_, rfl, RPost.flt HR.out (Fr.refl _ _)⟩
def overF (F : List ByteArray) (k : Nat) : Flt := if k < F.length then some (k, 282) else none
theorem over_any (w : World) (r gF k : Nat) (F : List ByteArray) (h : RowAt w r gF F k) :
    Calls Tryz.prog 12 #[.pointer (some ⟨r, 0, none⟩)] w fun e w' => ∃ fv, e = .returned fv ∧ RPost w r gF F k (overF F k) fv w' := by
  have HR := Lib.hid h
  have c0 := h.hd.at 0 (v := .slice (some ⟨gF, 0, none⟩) F.length F.length) rfl
  have c1 := h.hd.at 1 (v := .int .i64 k) rfl
  have hsm := h.sm
  have hle := h.le
  obtain ⟨n, hn⟩ : ∃ n, n = F.length := ⟨_, rfl⟩
  rw [overF]
  rw [← hn] at c0 hsm hle ⊢
  clear h hn
  by_cases hlt : k < n
  · rw [if_pos hlt]
    have k1 : (k : Int) < (n : Int) := by omega
    go_enter Tryz.func12, Tryz.ntmps12
    go_wp2_with fail
    go_quiet (fail)
    generalize hA : w.drewN _ = wA
    have HA := Lib.hid (show Fr [] w wA ∧ RowAt wA r gF F k from by rw [← hA]; exact ⟨(Fr.refl _ _).drewN _, HR.out.drewN _⟩)
    have a1 : wA.cell? ⟨r, 1, none⟩ = some (.int .i64 k) := by rw [← hA]; exact c1
    clear c0 c1 hA
    go_wp2
    go_ret
    exact ⟨_, rfl, RPost.flt HA.out.2 HA.out.1⟩
  · rw [if_neg hlt]
    have k1 : (n : Int) ≤ (k : Int) := by omega
    go_enter Tryz.func12, Tryz.ntmps12
    go_wp2_with fail
    go_quiet (fail)
    go_wp2
    go_ret
    exact ⟨_, rfl, HR.out.drewN _, rfl, (Fr.refl _ _).drewN _⟩
end Sc
end Go.Proofs.YtbpgpjibljgiiaaGreatDoor
