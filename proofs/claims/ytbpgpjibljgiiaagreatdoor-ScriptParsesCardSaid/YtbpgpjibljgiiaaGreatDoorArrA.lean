/-
  Script: an arrival's fields: which way, the slot, the place. Printed by genAr.py.
-/
import Derived.Test.YtbpgpjibljgiiaaGreatDoorBytA
namespace Go.Proofs.YtbpgpjibljgiiaaGreatDoor
open Go.RowKit
set_option linter.unusedVariables false
set_option linter.unusedSimpArgs false
attribute [local go_sem] Oper.semAt_some
namespace Sc
def upB : ByteArray := ⟨#[117, 112]⟩
def downB : ByteArray := ⟨#[100, 111, 119, 110]⟩
/-- A step in the making, in its own block: kind, lane, slot, place, bytes. -/
def stepC (kd : Nat) (la sl pl : Int) (by' : Value) : Array Value := #[.int .u8 kd, .int .i64 la, .int .i64 sl, .int .i64 pl, by']
/-- Behind the way: two numbers: slot, place, the fault, the next field. -/
def twoS (F : List ByteArray) (k : Nat) : Int := if (numF F k).isSome then 0 else numN F k
def twoP (F : List ByteArray) (k : Nat) : Int := if (numF F k).isSome then 0 else numN F (nextK F k)
def twoF (F : List ByteArray) (k : Nat) : Flt := if (numF F k).isSome then numF F k else numF F (nextK F k)
def twoK (F : List ByteArray) (k : Nat) : Nat := if (numF F k).isSome then nextK F k else nextK F (nextK F k)
/-- What arrival leaves of the step and the row. -/
def APost (W : World) (r gF sb : Nat) (F : List ByteArray) (k : Nat) (f : Flt) (C : Array Value) (fv : Value) (W' : World) : Prop :=
  RowAt W' r gF F k ∧ FaultV W' W.heap.size fv f ∧ Blk W' sb C 64 ∧ Fr [r, sb] W W'
set_option maxRecDepth 100000 in
set_option maxHeartbeats 4000000 in
/-- Kinds of one word. -/
theorem arr_one (w : World) (r gF sb k kd : Nat) (la : Int) (by' : Value) (F : List ByteArray) (h : RowAt w r gF F k) (hs : Blk w sb (stepC kd la 0 0 by') 64) (hkd : kd < 256) (hF : ∀ s ∈ F, s.size ≤ 4294967296) (h1 : (wordsL kd).length = 1) :
    Calls Tryz.prog 63 #[.pointer (some ⟨r, 0, none⟩), .pointer (some ⟨sb, 0, none⟩)] w fun e w' => ∃ fv, e = .returned fv ∧ APost w r gF sb F (twoK F k) (twoF F k) (stepC kd la (twoS F k) (twoP F k) by') fv w' := by
  have HW := Lib.hid (words_any w kd hkd)
  have HN := Lib.hid (fun W k (h : RowAt W r gF F k) => number_any W r gF k F h hF)
  have d0 := hs.at 0 (v := .int .u8 kd) rfl
  have hne : r ≠ sb := h.hd.ne hs (by decide)
  have hne2 : gF ≠ sb := h.fs.ne hs (by decide)
  have HR := Lib.hid (And.intro h (And.intro hs (And.intro hne hne2)))
  have HL := Lib.hid h1
  obtain ⟨sl, hsl⟩ : ∃ x, x = twoS F k := ⟨_, rfl⟩
  obtain ⟨pl, hpl⟩ : ∃ x, x = twoP F k := ⟨_, rfl⟩
  obtain ⟨fl, hfl⟩ : ∃ x, x = twoF F k := ⟨_, rfl⟩
  obtain ⟨kk, hkk⟩ : ∃ x, x = twoK F k := ⟨_, rfl⟩
  rw [← hsl, ← hpl, ← hfl, ← hkk]
  have HO := Lib.hid (And.intro hsl (And.intro hpl (And.intro hfl hkk)))
  clear h hs hF h1 hne hne2 hsl hpl hfl hkk
  go_enter Tryz.func63, Tryz.ntmps63
  go_wp2_with fail
  (with_reducible refine HW.out.mono ?_)
  rintro e w1 ⟨v, rfl, hv, f1⟩
  obtain ⟨g, rfl⟩ : ∃ g, v = .slice (some ⟨g, 0, none⟩) 1 1 := by
    rcases hv with ⟨h, _⟩ | ⟨g, q1, _⟩
    · rw [h] at HL; exact absurd HL.out (by decide)
    · rw [HL.out] at q1; exact ⟨g, q1⟩
  have HR1 := Lib.hid (And.intro (HR.out.1.fr f1 (by simp) (by simp)) (And.intro (f1.blk HR.out.2.1 (by simp)) f1))
  clear hv f1 d0
  go_wp2_with fail
  (with_reducible refine (HN.out _ k HR1.out.1).mono ?_)
  rintro e w2 ⟨fv, rfl, hp⟩
  cases hq : numF F k with
  | some q =>
    rw [hq] at hp
    obtain ⟨b, rfl, hb, hn⟩ : ∃ b, fv = .pointer (some ⟨b, 0, none⟩) ∧ Blk w2 b #[.int .i64 q.1, .int .i64 q.2] 53 ∧ w1.heap.size ≤ b := hp.2.1
    have HP := Lib.hid (And.intro hp.1 (And.intro hb (And.intro hn hp.2.2)))
    have HE := Lib.hid (show sl = 0 ∧ pl = 0 ∧ fl = some q ∧ kk = nextK F k from ⟨by rw [HO.out.1]; unfold twoS; rw [hq]; rfl, by rw [HO.out.2.1]; unfold twoP; rw [hq]; rfl, by rw [HO.out.2.2.1]; unfold twoF; rw [hq]; rfl, by rw [HO.out.2.2.2]; unfold twoK; rw [hq]; rfl⟩)
    clear hp hb hn hq
    go_wp2
    go_ret
    obtain ⟨z1, z2, z3, z4⟩ := HE.out
    subst z1; subst z2; subst z3; subst z4
    exact ⟨_, rfl, HP.out.1, ⟨b, rfl, HP.out.2.1, Nat.le_trans HR1.out.2.2.size HP.out.2.2.1⟩, HP.out.2.2.2.blk HR1.out.2.1 (by have := HR.out.2.2.1; simp; omega), (HR1.out.2.2.mono (by simp)).trans (HP.out.2.2.2.mono (by simp)) (fun x hx => .inl hx)⟩
  | none =>
    rw [hq] at hp
    obtain rfl : fv = .pointer none := hp.2.1
    have HP := Lib.hid (And.intro hp.1 hp.2.2)
    have HE := Lib.hid (show sl = numN F k ∧ pl = numN F (nextK F k) ∧ fl = numF F (nextK F k) ∧ kk = nextK F (nextK F k) from ⟨by rw [HO.out.1]; unfold twoS; rw [hq]; rfl, by rw [HO.out.2.1]; unfold twoP; rw [hq]; rfl, by rw [HO.out.2.2.1]; unfold twoF; rw [hq]; rfl, by rw [HO.out.2.2.2]; unfold twoK; rw [hq]; rfl⟩)
    clear hp hq
    go_wp2_with fail
    (with_reducible refine (HN.out _ (nextK F k) HP.out.1).mono ?_)
    rintro e w3 ⟨fv, rfl, hp⟩
    have hs3 : Blk w3 sb (stepC kd la 0 0 by') 64 := hp.2.2.blk (HP.out.2.blk HR1.out.2.1 (by have := HR.out.2.2.1; simp; omega)) (by have := HR.out.2.2.1; simp; omega)
    have d2 := hs3.at 2 (v := .int .i64 0) rfl
    have d3 := hs3.at 3 (v := .int .i64 0) rfl
    have g2 := hs3.free 2
    have g3 := hs3.free 3
    have HP3 := Lib.hid (And.intro hp hs3)
    clear hp hs3
    go_wp2
    go_ret
    obtain ⟨z1, z2, z3, z4⟩ := HE.out
    subst z1; subst z2; subst z3; subst z4
    have hset := (HP3.out.2.set 2 (.int .i64 (numN F k))).set 3 (.int .i64 (numN F (nextK F k)))
    have hfr : Fr [sb] w3 ((w3.setCell ⟨sb, 2, none⟩ (.int .i64 (numN F k))).setCell ⟨sb, 3, none⟩ (.int .i64 (numN F (nextK F k)))) := ((Fr.refl _ _).setCell _ _ (.inl (by simp))).setCell _ _ (.inl (by simp))
    have hw : Fr [r, sb] w w3 := ((HR1.out.2.2.mono (by simp)).trans (HP.out.2.mono (by simp)) (fun x hx => .inl hx)).trans (HP3.out.1.2.2.mono (by simp)) (fun x hx => .inl hx)
    refine ⟨_, rfl, HP3.out.1.1.fr hfr (by have := HR.out.2.2.1; simp; omega) (by have := HR.out.2.2.2; simp; omega), ?_, hset, hw.trans (hfr.mono (by simp)) (fun x hx => .inl hx)⟩
    have h5 := HP3.out.1.2.1
    have hsz : w.heap.size ≤ w2.heap.size := Nat.le_trans HR1.out.2.2.size HP.out.2.size
    revert h5
    generalize numF F (nextK F k) = ff
    intro h5
    match ff, h5 with
    | none, h5 => exact h5
    | some q, ⟨b, q1, q2, q3⟩ => exact ⟨b, q1, hfr.blk q2 (by have := HR.out.2.1.lt; simp; omega), by omega⟩
end Sc
end Go.Proofs.YtbpgpjibljgiiaaGreatDoor
