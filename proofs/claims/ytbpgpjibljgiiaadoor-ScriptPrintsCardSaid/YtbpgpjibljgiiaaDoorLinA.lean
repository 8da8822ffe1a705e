/-
  Script: a script's first line.
-/
import Derived.Test.YtbpgpjibljgiiaaDoorStpF
import Derived.Test.YtbpgpjibljgiiaaDoorNumsA
namespace Go.Proofs.YtbpgpjibljgiiaaDoor
open Go.RowKit
set_option linter.unusedVariables false
set_option linter.unusedSimpArgs false
attribute [local go_sem] Oper.semAt_some
namespace Sc
def headB : ByteArray := ⟨#[112, 97, 100, 100, 111, 99, 107]⟩
def sizeB : ByteArray := ⟨#[99, 111, 110, 102, 105, 103]⟩
def oneB : ByteArray := ⟨#[49]⟩
theorem beq_is {a b : ByteArray} (h : a = b) : (a.toList == b.toList) = true := by rw [h]; exact beq_self_eq_true _
theorem beq_not {a b : ByteArray} (h : a ≠ b) : (a.toList == b.toList) = false := by rw [toList_beq]; exact decide_eq_false h
/-- The first line's fault. -/
def oneF (F : List ByteArray) : Flt := if fld F 0 = headB then (if 1 < F.length then (if fld F 1 = oneB then overF F 2 else some (1, 281)) else some (1, 282)) else some (0, 280)
theorem FaultV.from {W : World} {n0 n1 : Nat} {v : Value} {f : Flt} (h : FaultV W n1 v f) (hn : n0 ≤ n1) : FaultV W n0 v f := by
  match f, h with
  | none, h => exact h
  | some (a, c), ⟨b, h1, h2, h3⟩ => exact ⟨b, h1, h2, Nat.le_trans hn h3⟩
theorem FaultV.new (w : World) (a : Nat) (c : Int) (n0 : Nat) (h : n0 ≤ w.heap.size) : FaultV (w.alloc (.cells #[.int .i64 a, .int .i64 c] 66)) n0 (.pointer (some ⟨w.heap.size, 0, none⟩)) (some (a, c)) := ⟨_, rfl, Blk.new _ _ _, h⟩
set_option maxRecDepth 100000 in
set_option maxHeartbeats 4000000 in
theorem line_one (w : World) (r gF sc : Nat) (F : List ByteArray) (h : RowAt w r gF F 0) (hF : 0 < F.length) :
    Calls Tryd.prog 27 #[.pointer (some ⟨r, 0, none⟩), .int .i64 1, .pointer (some ⟨sc, 0, none⟩)] w fun e w' => ∃ fv, e = .returned fv ∧ FaultV w' w.heap.size fv (oneF F) ∧ Fr [r] w w' := by
  have HX := Lib.hid (fun W k (h : RowAt W r gF F k) => next_any W r gF k F h)
  have HV := Lib.hid (fun W (h : RowAt W r gF F 2) => over_any W r gF 2 F h)
  have HW := Lib.hid (fun W k (h : RowAt W r gF F (k + 1)) => wrong_any W r gF k F h)
  have HR := Lib.hid h
  have HFL := Lib.hid hF
  have c0 := h.hd.at 0 (v := .slice (some ⟨gF, 0, none⟩) F.length F.length) rfl
  have cs : w.cell? ⟨gF, 0, none⟩ = some (.string (fld F 0)) := h.at (by unfold fld; rw [List.getD_eq_getElem?_getD, List.getElem?_eq_getElem hF, Option.getD_some])
  have c1 := h.hd.at 1 (v := .int .i64 0) rfl
  have g1 := h.hd.free 1
  have k0 : (0 : Int) < (F.length : Int) := by omega
  obtain ⟨N, hN⟩ : ∃ N, N = F.length := ⟨_, rfl⟩
  have HN := Lib.hid hN
  rw [← hN] at c0 k0
  obtain ⟨s, hs⟩ : ∃ s, s = fld F 0 := ⟨_, rfl⟩
  have HS := Lib.hid hs
  rw [← hs] at cs
  obtain ⟨fl, hfl⟩ : ∃ fl, fl = oneF F := ⟨_, rfl⟩
  have HL := Lib.hid hfl
  rw [← hfl]
  clear h hF hN hs hfl
  by_cases hh : s = headB
  · have e1 : (s.toList == (⟨#[112, 97, 100, 100, 111, 99, 107]⟩ : ByteArray).toList) = true := beq_is hh
    have e2 : (s.toList == [112, 97, 100, 100, 111, 99, 107]) = true := by rw [hh]; kernel_rfl
    have HE := Lib.hid (show fl = (if 1 < F.length then (if fld F 1 = oneB then overF F 2 else some (1, 281)) else some (1, 282)) from by rw [HL.out]; unfold oneF; rw [if_pos (by rw [← HS.out, hh])])
    obtain ⟨w1, hw1⟩ : ∃ w1, w.setCell ⟨r, 1, none⟩ (.int .i64 1) = w1 := ⟨_, rfl⟩
    have HW1 := Lib.hid hw1
    have H1 := Lib.hid (show RowAt w1 r gF F 1 ∧ Fr [r] w w1 from ⟨by rw [← hw1]; exact HR.out.set 1 HFL.out, by rw [← hw1]; exact (Fr.refl _ _).setCell _ _ (.inl (by simp))⟩)
    clear hh hw1
    go_enter Tryd.func27, Tryd.ntmps27
    go_upto_region 3 with fail
    rw [HW1.out]
    clear c0 cs c1 g1
    go_wp2_with fail
    (with_reducible refine (HX.out _ 1 H1.out.1).mono ?_)
    rintro e w2 ⟨fv, rfl, hp⟩
    rw [show F.getD 1 ⟨#[]⟩ = fld F 1 from rfl]
    by_cases hlt : 1 < F.length
    · rw [nextK, nextF, if_pos hlt, if_pos hlt] at hp
      obtain rfl : fv = .pointer none := hp.2.1
      have HP := Lib.hid (And.intro hp.1 hp.2)
      have HE1 := Lib.hid (show fl = (if fld F 1 = oneB then overF F 2 else some (1, 281)) from by rw [HE.out, if_pos hlt])
      clear hp hlt
      obtain ⟨t, ht⟩ : ∃ t, t = fld F 1 := ⟨_, rfl⟩
      rw [← ht] at HE1 ⊢
      clear ht
      by_cases ho : t = oneB
      · have e3 : (t.toList == (⟨#[49]⟩ : ByteArray).toList) = true := beq_is ho
        have e4 : (t.toList == [49]) = true := by rw [ho]; kernel_rfl
        have e5 : (t.toList != [49]) = false := by rw [ho]; kernel_rfl
        have HE2 := Lib.hid (show fl = overF F 2 by rw [HE1.out, if_pos ho])
        clear ho
        go_wp2_with fail
        (with_reducible refine (HV.out _ HP.out.1).mono ?_)
        rintro e w3 ⟨fv, rfl, hp⟩
        rw [← HE2.out] at hp
        go_wp2
        go_ret
        exact ⟨_, rfl, hp.2.1.from (Nat.le_trans H1.out.2.size HP.out.2.2.size), (H1.out.2.trans HP.out.2.2 (fun x hx => .inl hx)).trans hp.2.2 (fun x hx => .inl hx)⟩
      · have e3 : (t.toList == (⟨#[49]⟩ : ByteArray).toList) = false := beq_not ho
        have e4 : (t.toList == [49]) = false := by rw [← e3]; rw [ByteArray.toList_eq (⟨#[49]⟩ : ByteArray)]
        have e5 : (t.toList != [49]) = true := by rw [bne, e4]; rfl
        have HE2 := Lib.hid (show fl = some (1, 281) by rw [HE1.out, if_neg ho])
        clear ho
        go_wp2_with fail
        (with_reducible refine (HW.out _ 1 HP.out.1).mono ?_)
        rintro e w3 ⟨fv, rfl, hp⟩
        rw [← HE2.out] at hp
        go_wp2
        go_ret
        exact ⟨_, rfl, hp.2.1.from (Nat.le_trans H1.out.2.size HP.out.2.2.size), (H1.out.2.trans HP.out.2.2 (fun x hx => .inl hx)).trans hp.2.2 (fun x hx => .inl hx)⟩
    · rw [nextK, nextF, if_neg hlt, if_neg hlt] at hp
      have HE1 := Lib.hid (show fl = some (1, 282) from by rw [HE.out, if_neg hlt])
      obtain ⟨b, rfl, hb, hn⟩ : ∃ b, fv = .pointer (some ⟨b, 0, none⟩) ∧ Blk w2 b #[.int .i64 ((1 : Nat) : Int), .int .i64 282] 66 ∧ w1.heap.size ≤ b := hp.2.1
      have HP := Lib.hid (And.intro hb (And.intro hn hp.2.2))
      clear hp hb hn hlt
      generalize fld F 1 = t
      obtain rfl := HE1.out
      go_wp2
      go_ret
      exact ⟨_, rfl, ⟨b, rfl, HP.out.1, Nat.le_trans H1.out.2.size HP.out.2.1⟩, H1.out.2.trans HP.out.2.2 (fun x hx => .inl hx)⟩
  · have e1 : (s.toList == (⟨#[112, 97, 100, 100, 111, 99, 107]⟩ : ByteArray).toList) = false := beq_not hh
    have e2 : (s.toList == [112, 97, 100, 100, 111, 99, 107]) = false := by rw [← e1]; rw [ByteArray.toList_eq (⟨#[112, 97, 100, 100, 111, 99, 107]⟩ : ByteArray)]
    have HE := Lib.hid (show fl = some (0, 280) from by rw [HL.out]; unfold oneF; rw [if_neg (by rw [← HS.out]; exact hh)])
    clear hh
    obtain rfl := HE.out
    go_enter Tryd.func27, Tryd.ntmps27
    go_wp2
    go_ret
    exact ⟨_, rfl, FaultV.new w 0 280 _ (Nat.le_refl _), ((Fr.refl [] w).alloc _).mono (by simp)⟩
end Sc
end Go.Proofs.YtbpgpjibljgiiaaDoor
