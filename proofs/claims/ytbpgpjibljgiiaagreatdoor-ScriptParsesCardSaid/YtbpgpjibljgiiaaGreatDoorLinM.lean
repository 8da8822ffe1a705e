/-
  Script: a script's first line.
  Script: a script's second line: eleven numbers. Printed by genLin.py.
  Script: a script's lines behind the second: a step each. Printed by genLic.py.
-/
import Derived.Test.YtbpgpjibljgiiaaGreatDoorStpM
import Derived.Test.YtbpgpjibljgiiaaGreatDoorNumsA
import Derived.Stop.Asserts
namespace Go.Proofs.YtbpgpjibljgiiaaGreatDoor
open Go.RowKit
set_option linter.unusedVariables false
set_option linter.unusedSimpArgs false
attribute [local go_sem] Oper.semAt_some
namespace Sc
def headB : ByteArray := ⟨#[112, 97, 100, 100, 111, 99, 107]⟩
def sizeB : ByteArray := ⟨#[99, 111, 110, 102, 105, 103]⟩
def oneB : ByteArray := ⟨#[49]⟩
theorem beq_is {a b : ByteArray} (h : a = b) : (a.toList == b.toList) = true := by rw [h]; exact beq_self_eq_true _
theorem beq_not {a b : ByteArray} (h : a ≠ b) : (a.toList == b.toList) = false := by rw [toList_beq]; exact decide_eq_false h
/-- The first line's fault. -/
def oneF (F : List ByteArray) : Flt := if fld F 0 = headB then (if 1 < F.length then (if fld F 1 = oneB then overF F 2 else some (1, 281)) else some (1, 282)) else some (0, 280)
theorem FaultV.from {W : World} {n0 n1 : Nat} {v : Value} {f : Flt} (h : FaultV W n1 v f) (hn : n0 ≤ n1) : FaultV W n0 v f := by
  match f, h with
  | none, h => exact h
  | some (a, c), ⟨b, h1, h2, h3⟩ => exact ⟨b, h1, h2, Nat.le_trans hn h3⟩
theorem FaultV.new (w : World) (a : Nat) (c : Int) (n0 : Nat) (h : n0 ≤ w.heap.size) : FaultV (w.alloc (.cells #[.int .i64 a, .int .i64 c] 53)) n0 (.pointer (some ⟨w.heap.size, 0, none⟩)) (some (a, c)) := ⟨_, rfl, Blk.new _ _ _, h⟩
set_option maxRecDepth 100000 in
set_option maxHeartbeats 4000000 in
theorem line_one (w : World) (r gF sc : Nat) (F : List ByteArray) (h : RowAt w r gF F 0) (hF : 0 < F.length) :
    Calls Tryz.prog 13 #[.pointer (some ⟨r, 0, none⟩), .int .i64 1, .pointer (some ⟨sc, 0, none⟩)] w fun e w' => ∃ fv, e = .returned fv ∧ FaultV w' w.heap.size fv (oneF F) ∧ Fr [r] w w' := by
  have HX := Lib.hid (fun W k (h : RowAt W r gF F k) => next_any W r gF k F h)
  have HV := Lib.hid (fun W (h : RowAt W r gF F 2) => over_any W r gF 2 F h)
  have HW := Lib.hid (fun W k (h : RowAt W r gF F (k + 1)) => wrong_any W r gF k F h)
  have HR := Lib.hid h
  have HFL := Lib.hid hF
  have c0 := h.hd.at 0 (v := .slice (some ⟨gF, 0, none⟩) F.length F.length) rfl
  have cs : w.cell? ⟨gF, 0, none⟩ = some (.string (fld F 0)) := h.at (by unfold fld; rw [List.getD_eq_getElem?_getD, List.getElem?_eq_getElem hF, Option.getD_some])
  have c1 := h.hd.at 1 (v := .int .i64 0) rfl
  have g1 := h.hd.free 1
  have k0 : (0 : Int) < (F.length : Int) := by omega
  obtain ⟨N, hN⟩ : ∃ N, N = F.length := ⟨_, rfl⟩
  have HN := Lib.hid hN
  rw [← hN] at c0 k0
  obtain ⟨s, hs⟩ : ∃ s, s = fld F 0 := ⟨_, rfl⟩
  have HS := Lib.hid hs
  rw [← hs] at cs
  obtain ⟨fl, hfl⟩ : ∃ fl, fl = oneF F := ⟨_, rfl⟩
  have HL := Lib.hid hfl
  rw [← hfl]
  clear h hF hN hs hfl
  by_cases hh : s = headB
  · have e1 : (s.toList == (⟨#[112, 97, 100, 100, 111, 99, 107]⟩ : ByteArray).toList) = true := beq_is hh
    have e2 : (s.toList == [112, 97, 100, 100, 111, 99, 107]) = true := by rw [hh]; kernel_rfl
    have HE := Lib.hid (show fl = (if 1 < F.length then (if fld F 1 = oneB then overF F 2 else some (1, 281)) else some (1, 282)) from by rw [HL.out]; unfold oneF; rw [if_pos (by rw [← HS.out, hh])])
    obtain ⟨w1, hw1⟩ : ∃ w1, w.setCell ⟨r, 1, none⟩ (.int .i64 1) = w1 := ⟨_, rfl⟩
    have HW1 := Lib.hid hw1
    have H1 := Lib.hid (show RowAt w1 r gF F 1 ∧ Fr [r] w w1 from ⟨by rw [← hw1]; exact HR.out.set 1 HFL.out, by rw [← hw1]; exact (Fr.refl _ _).setCell _ _ (.inl (by simp))⟩)
    clear hh hw1
    go_enter Tryz.func13, Tryz.ntmps13
    go_upto_region 3 with fail
    rw [HW1.out]
    clear c0 cs c1 g1
    go_wp2_with fail
    (with_reducible refine (HX.out _ 1 H1.out.1).mono ?_)
    rintro e w2 ⟨fv, rfl, hp⟩
    rw [show F.getD 1 ⟨#[]⟩ = fld F 1 from rfl]
    by_cases hlt : 1 < F.length
    · rw [nextK, nextF, if_pos hlt, if_pos hlt] at hp
      obtain rfl : fv = .pointer none := hp.2.1
      have HP := Lib.hid (And.intro hp.1 hp.2)
      have HE1 := Lib.hid (show fl = (if fld F 1 = oneB then overF F 2 else some (1, 281)) from by rw [HE.out, if_pos hlt])
      clear hp hlt
      obtain ⟨t, ht⟩ : ∃ t, t = fld F 1 := ⟨_, rfl⟩
      rw [← ht] at HE1 ⊢
      clear ht
      by_cases ho : t = oneB
      · have e3 : (t.toList == (⟨#[49]⟩ : ByteArray).toList) = true := beq_is ho
        have e4 : (t.toList == [49]) = true := by rw [ho]; kernel_rfl
        have e5 : (t.toList != [49]) = false := by rw [ho]; kernel_rfl
        have HE2 := Lib.hid (show fl = overF F 2 by rw [HE1.out, if_pos ho])
        clear ho
        go_wp2_with fail
        (with_reducible refine (HV.out _ HP.out.1).mono ?_)
        rintro e w3 ⟨fv, rfl, hp⟩
        rw [← HE2.out] at hp
        go_wp2
        go_ret
        exact ⟨_, rfl, hp.2.1.from (Nat.le_trans H1.out.2.size HP.out.2.2.size), (H1.out.2.trans HP.out.2.2 (fun x hx => .inl hx)).trans hp.2.2 (fun x hx => .inl hx)⟩
      · have e3 : (t.toList == (⟨#[49]⟩ : ByteArray).toList) = false := beq_not ho
        have e4 : (t.toList == [49]) = false := by rw [← e3]; rw [ByteArray.toList_eq (⟨#[49]⟩ : ByteArray)]
        have e5 : (t.toList != [49]) = true := by rw [bne, e4]; rfl
        have HE2 := Lib.hid (show fl = some (1, 281) by rw [HE1.out, if_neg ho])
        clear ho
        go_wp2_with fail
        (with_reducible refine (HW.out _ 1 HP.out.1).mono ?_)
        rintro e w3 ⟨fv, rfl, hp⟩
        rw [← HE2.out] at hp
        go_wp2
        go_ret
        exact ⟨_, rfl, hp.2.1.from (Nat.le_trans H1.out.2.size HP.out.2.2.size), (H1.out.2.trans HP.out.2.2 (fun x hx => .inl hx)).trans hp.2.2 (fun x hx => .inl hx)⟩
    · rw [nextK, nextF, if_neg hlt, if_neg hlt] at hp
      have HE1 := Lib.hid (show fl = some (1, 282) from by rw [HE.out, if_neg hlt])
      obtain ⟨b, rfl, hb, hn⟩ : ∃ b, fv = .pointer (some ⟨b, 0, none⟩) ∧ Blk w2 b #[.int .i64 ((1 : Nat) : Int), .int .i64 282] 53 ∧ w1.heap.size ≤ b := hp.2.1
      have HP := Lib.hid (And.intro hb (And.intro hn hp.2.2))
      clear hp hb hn hlt
      generalize fld F 1 = t
      obtain rfl := HE1.out
      go_wp2
      go_ret
      exact ⟨_, rfl, ⟨b, rfl, HP.out.1, Nat.le_trans H1.out.2.size HP.out.2.1⟩, H1.out.2.trans HP.out.2.2 (fun x hx => .inl hx)⟩
  · have e1 : (s.toList == (⟨#[112, 97, 100, 100, 111, 99, 107]⟩ : ByteArray).toList) = false := beq_not hh
    have e2 : (s.toList == [112, 97, 100, 100, 111, 99, 107]) = false := by rw [← e1]; rw [ByteArray.toList_eq (⟨#[112, 97, 100, 100, 111, 99, 107]⟩ : ByteArray)]
    have HE := Lib.hid (show fl = some (0, 280) from by rw [HL.out]; unfold oneF; rw [if_neg (by rw [← HS.out]; exact hh)])
    clear hh
    obtain rfl := HE.out
    go_enter Tryz.func13, Tryz.ntmps13
    go_wp2
    go_ret
    exact ⟨_, rfl, FaultV.new w 0 280 _ (Nat.le_refl _), ((Fr.refl [] w).alloc _).mono (by simp)⟩
end Sc
end Go.Proofs.YtbpgpjibljgiiaaGreatDoor
namespace Go.Proofs.YtbpgpjibljgiiaaGreatDoor
open Go.RowKit
set_option linter.unusedVariables false
set_option linter.unusedSimpArgs false
attribute [local go_sem] Oper.semAt_some
namespace Sc
/-- m numbers from field k on, and no more. -/
def numsF (F : List ByteArray) : Nat → Nat → Flt
  | 0, k => overF F k
  | m + 1, k => thenF (numF F k) (numsF F m (k + 1))
def cfgF (F : List ByteArray) : Flt := if fld F 0 = sizeB then numsF F 11 1 else some (0, 280)
def cfgAt (F : List ByteArray) (k : Nat) (cfg : List Int) : List Int := (List.range k).map (fun i => numN F (i + 1)) ++ cfg.drop k
theorem cfgAt_len {F : List ByteArray} {k : Nat} {cfg : List Int} (h : k ≤ cfg.length) : (cfgAt F k cfg).length = cfg.length := by simp [cfgAt]; omega
theorem cfgAt_set {F : List ByteArray} {k : Nat} {cfg : List Int} (h : k < cfg.length) : (cfgAt F k cfg).set k (numN F (k + 1)) = cfgAt F (k + 1) cfg := by
  unfold cfgAt
  rw [List.set_append_right _ _ (by simp), List.length_map, List.length_range, Nat.sub_self, List.drop_eq_getElem_cons h, List.set_cons_zero, List.range_succ, List.map_append, List.append_assoc]
  rfl
theorem numF_none {F : List ByteArray} {k : Nat} (h : numF F k = none) : k < F.length := by
  unfold numF at h
  split at h
  · assumption
  · cases h
/-- A script's cells: the config, the list of steps. -/
def scrC (cfg : List Int) (v : Value) : Array Value := (ints cfg ++ [v]).toArray
theorem scrC_set {cfg : List Int} {v : Value} {k : Nat} (x : Int) (h : k < cfg.length) : (scrC cfg v).setIfInBounds k (.int .i64 x) = scrC (cfg.set k x) v := by
  unfold scrC
  rw [List.setIfInBounds_toArray, List.set_append_left _ _ (by simpa [ints] using h)]
  simp [ints, List.map_set]
theorem scrC_at {cfg : List Int} {v : Value} {k : Nat} (h : k < cfg.length) : (scrC cfg v)[k]? = some (.int .i64 (cfg.getD k 0)) := by
  unfold scrC
  rw [List.getElem?_toArray, List.getElem?_append_left (by simpa [ints] using h)]
  simp [ints, List.getD_eq_getElem?_getD, h]
theorem scrC_last {cfg : List Int} {v : Value} (h : cfg.length = 11) : (scrC cfg v)[11]? = some v := by
  unfold scrC
  rw [List.getElem?_toArray, List.getElem?_append_right (by simp [ints]; omega)]
  simp [ints, h]
theorem scrC_setL {cfg : List Int} {v : Value} (x : Value) (h : cfg.length = 11) : (scrC cfg v).setIfInBounds 11 x = scrC cfg x := by
  unfold scrC
  rw [List.setIfInBounds_toArray, List.set_append_right _ _ (by simp [ints]; omega)]
  simp [ints, h]
theorem run_nums0 (sc : Nat) (w : World) : (Instr.index 76 (.agg #[.iface 80 (.pointer (some ⟨sc, 0, none⟩)), .iface 80 (.pointer (some ⟨sc, 1, none⟩)), .iface 80 (.pointer (some ⟨sc, 2, none⟩)), .iface 80 (.pointer (some ⟨sc, 3, none⟩)), .iface 80 (.pointer (some ⟨sc, 4, none⟩)), .iface 80 (.pointer (some ⟨sc, 5, none⟩)), .iface 80 (.pointer (some ⟨sc, 6, none⟩)), .iface 80 (.pointer (some ⟨sc, 7, none⟩)), .iface 80 (.pointer (some ⟨sc, 8, none⟩)), .iface 82 (.pointer (some ⟨sc, 9, none⟩)), .iface 80 (.pointer (some ⟨sc, 10, none⟩))]) (.int .i64 0)).run Tryz.prog w = .ok (.iface 80 (.pointer (some ⟨sc, 0, none⟩))) w := by kernel_rfl
theorem run_nums1 (sc : Nat) (w : World) : (Instr.index 76 (.agg #[.iface 80 (.pointer (some ⟨sc, 0, none⟩)), .iface 80 (.pointer (some ⟨sc, 1, none⟩)), .iface 80 (.pointer (some ⟨sc, 2, none⟩)), .iface 80 (.pointer (some ⟨sc, 3, none⟩)), .iface 80 (.pointer (some ⟨sc, 4, none⟩)), .iface 80 (.pointer (some ⟨sc, 5, none⟩)), .iface 80 (.pointer (some ⟨sc, 6, none⟩)), .iface 80 (.pointer (some ⟨sc, 7, none⟩)), .iface 80 (.pointer (some ⟨sc, 8, none⟩)), .iface 82 (.pointer (some ⟨sc, 9, none⟩)), .iface 80 (.pointer (some ⟨sc, 10, none⟩))]) (.int .i64 1)).run Tryz.prog w = .ok (.iface 80 (.pointer (some ⟨sc, 1, none⟩))) w := by kernel_rfl
theorem run_nums2 (sc : Nat) (w : World) : (Instr.index 76 (.agg #[.iface 80 (.pointer (some ⟨sc, 0, none⟩)), .iface 80 (.pointer (some ⟨sc, 1, none⟩)), .iface 80 (.pointer (some ⟨sc, 2, none⟩)), .iface 80 (.pointer (some ⟨sc, 3, none⟩)), .iface 80 (.pointer (some ⟨sc, 4, none⟩)), .iface 80 (.pointer (some ⟨sc, 5, none⟩)), .iface 80 (.pointer (some ⟨sc, 6, none⟩)), .iface 80 (.pointer (some ⟨sc, 7, none⟩)), .iface 80 (.pointer (some ⟨sc, 8, none⟩)), .iface 82 (.pointer (some ⟨sc, 9, none⟩)), .iface 80 (.pointer (some ⟨sc, 10, none⟩))]) (.int .i64 2)).run Tryz.prog w = .ok (.iface 80 (.pointer (some ⟨sc, 2, none⟩))) w := by kernel_rfl
theorem run_nums3 (sc : Nat) (w : World) : (Instr.index 76 (.agg #[.iface 80 (.pointer (some ⟨sc, 0, none⟩)), .iface 80 (.pointer (some ⟨sc, 1, none⟩)), .iface 80 (.pointer (some ⟨sc, 2, none⟩)), .iface 80 (.pointer (some ⟨sc, 3, none⟩)), .iface 80 (.pointer (some ⟨sc, 4, none⟩)), .iface 80 (.pointer (some ⟨sc, 5, none⟩)), .iface 80 (.pointer (some ⟨sc, 6, none⟩)), .iface 80 (.pointer (some ⟨sc, 7, none⟩)), .iface 80 (.pointer (some ⟨sc, 8, none⟩)), .iface 82 (.pointer (some ⟨sc, 9, none⟩)), .iface 80 (.pointer (some ⟨sc, 10, none⟩))]) (.int .i64 3)).run Tryz.prog w = .ok (.iface 80 (.pointer (some ⟨sc, 3, none⟩))) w := by kernel_rfl
theorem run_nums4 (sc : Nat) (w : World) : (Instr.index 76 (.agg #[.iface 80 (.pointer (some ⟨sc, 0, none⟩)), .iface 80 (.pointer (some ⟨sc, 1, none⟩)), .iface 80 (.pointer (some ⟨sc, 2, none⟩)), .iface 80 (.pointer (some ⟨sc, 3, none⟩)), .iface 80 (.pointer (some ⟨sc, 4, none⟩)), .iface 80 (.pointer (some ⟨sc, 5, none⟩)), .iface 80 (.pointer (some ⟨sc, 6, none⟩)), .iface 80 (.pointer (some ⟨sc, 7, none⟩)), .iface 80 (.pointer (some ⟨sc, 8, none⟩)), .iface 82 (.pointer (some ⟨sc, 9, none⟩)), .iface 80 (.pointer (some ⟨sc, 10, none⟩))]) (.int .i64 4)).run Tryz.prog w = .ok (.iface 80 (.pointer (some ⟨sc, 4, none⟩))) w := by kernel_rfl
theorem run_nums5 (sc : Nat) (w : World) : (Instr.index 76 (.agg #[.iface 80 (.pointer (some ⟨sc, 0, none⟩)), .iface 80 (.pointer (some ⟨sc, 1, none⟩)), .iface 80 (.pointer (some ⟨sc, 2, none⟩)), .iface 80 (.pointer (some ⟨sc, 3, none⟩)), .iface 80 (.pointer (some ⟨sc, 4, none⟩)), .iface 80 (.pointer (some ⟨sc, 5, none⟩)), .iface 80 (.pointer (some ⟨sc, 6, none⟩)), .iface 80 (.pointer (some ⟨sc, 7, none⟩)), .iface 80 (.pointer (some ⟨sc, 8, none⟩)), .iface 82 (.pointer (some ⟨sc, 9, none⟩)), .iface 80 (.pointer (some ⟨sc, 10, none⟩))]) (.int .i64 5)).run Tryz.prog w = .ok (.iface 80 (.pointer (some ⟨sc, 5, none⟩))) w := by kernel_rfl
theorem run_nums6 (sc : Nat) (w : World) : (Instr.index 76 (.agg #[.iface 80 (.pointer (some ⟨sc, 0, none⟩)), .iface 80 (.pointer (some ⟨sc, 1, none⟩)), .iface 80 (.pointer (some ⟨sc, 2, none⟩)), .iface 80 (.pointer (some ⟨sc, 3, none⟩)), .iface 80 (.pointer (some ⟨sc, 4, none⟩)), .iface 80 (.pointer (some ⟨sc, 5, none⟩)), .iface 80 (.pointer (some ⟨sc, 6, none⟩)), .iface 80 (.pointer (some ⟨sc, 7, none⟩)), .iface 80 (.pointer (some ⟨sc, 8, none⟩)), .iface 82 (.pointer (some ⟨sc, 9, none⟩)), .iface 80 (.pointer (some ⟨sc, 10, none⟩))]) (.int .i64 6)).run Tryz.prog w = .ok (.iface 80 (.pointer (some ⟨sc, 6, none⟩))) w := by kernel_rfl
theorem run_nums7 (sc : Nat) (w : World) : (Instr.index 76 (.agg #[.iface 80 (.pointer (some ⟨sc, 0, none⟩)), .iface 80 (.pointer (some ⟨sc, 1, none⟩)), .iface 80 (.pointer (some ⟨sc, 2, none⟩)), .iface 80 (.pointer (some ⟨sc, 3, none⟩)), .iface 80 (.pointer (some ⟨sc, 4, none⟩)), .iface 80 (.pointer (some ⟨sc, 5, none⟩)), .iface 80 (.pointer (some ⟨sc, 6, none⟩)), .iface 80 (.pointer (some ⟨sc, 7, none⟩)), .iface 80 (.pointer (some ⟨sc, 8, none⟩)), .iface 82 (.pointer (some ⟨sc, 9, none⟩)), .iface 80 (.pointer (some ⟨sc, 10, none⟩))]) (.int .i64 7)).run Tryz.prog w = .ok (.iface 80 (.pointer (some ⟨sc, 7, none⟩))) w := by kernel_rfl
theorem run_nums8 (sc : Nat) (w : World) : (Instr.index 76 (.agg #[.iface 80 (.pointer (some ⟨sc, 0, none⟩)), .iface 80 (.pointer (some ⟨sc, 1, none⟩)), .iface 80 (.pointer (some ⟨sc, 2, none⟩)), .iface 80 (.pointer (some ⟨sc, 3, none⟩)), .iface 80 (.pointer (some ⟨sc, 4, none⟩)), .iface 80 (.pointer (some ⟨sc, 5, none⟩)), .iface 80 (.pointer (some ⟨sc, 6, none⟩)), .iface 80 (.pointer (some ⟨sc, 7, none⟩)), .iface 80 (.pointer (some ⟨sc, 8, none⟩)), .iface 82 (.pointer (some ⟨sc, 9, none⟩)), .iface 80 (.pointer (some ⟨sc, 10, none⟩))]) (.int .i64 8)).run Tryz.prog w = .ok (.iface 80 (.pointer (some ⟨sc, 8, none⟩))) w := by kernel_rfl
theorem run_nums9 (sc : Nat) (w : World) : (Instr.index 76 (.agg #[.iface 80 (.pointer (some ⟨sc, 0, none⟩)), .iface 80 (.pointer (some ⟨sc, 1, none⟩)), .iface 80 (.pointer (some ⟨sc, 2, none⟩)), .iface 80 (.pointer (some ⟨sc, 3, none⟩)), .iface 80 (.pointer (some ⟨sc, 4, none⟩)), .iface 80 (.pointer (some ⟨sc, 5, none⟩)), .iface 80 (.pointer (some ⟨sc, 6, none⟩)), .iface 80 (.pointer (some ⟨sc, 7, none⟩)), .iface 80 (.pointer (some ⟨sc, 8, none⟩)), .iface 82 (.pointer (some ⟨sc, 9, none⟩)), .iface 80 (.pointer (some ⟨sc, 10, none⟩))]) (.int .i64 9)).run Tryz.prog w = .ok (.iface 82 (.pointer (some ⟨sc, 9, none⟩))) w := by kernel_rfl
theorem run_nums10 (sc : Nat) (w : World) : (Instr.index 76 (.agg #[.iface 80 (.pointer (some ⟨sc, 0, none⟩)), .iface 80 (.pointer (some ⟨sc, 1, none⟩)), .iface 80 (.pointer (some ⟨sc, 2, none⟩)), .iface 80 (.pointer (some ⟨sc, 3, none⟩)), .iface 80 (.pointer (some ⟨sc, 4, none⟩)), .iface 80 (.pointer (some ⟨sc, 5, none⟩)), .iface 80 (.pointer (some ⟨sc, 6, none⟩)), .iface 80 (.pointer (some ⟨sc, 7, none⟩)), .iface 80 (.pointer (some ⟨sc, 8, none⟩)), .iface 82 (.pointer (some ⟨sc, 9, none⟩)), .iface 80 (.pointer (some ⟨sc, 10, none⟩))]) (.int .i64 10)).run Tryz.prog w = .ok (.iface 80 (.pointer (some ⟨sc, 10, none⟩))) w := by kernel_rfl
theorem run_as1 (p : Option Addr) (w : World) : (Instr.typeAssert (.iface 80 (.pointer p)) 20 80 true).run Tryz.prog w = .ok (.tuple #[.pointer p, .bool true]) w := by kernel_rfl
theorem run_as2 (p : Option Addr) (w : World) : (Instr.typeAssert (.iface 82 (.pointer p)) 20 82 true).run Tryz.prog w = .ok (.tuple #[.pointer p, .bool true]) w := by kernel_rfl
theorem run_as3 (p : Option Addr) (w : World) : (Instr.typeAssert (.iface 82 (.pointer p)) 20 80 true).run Tryz.prog w = .ok (.tuple #[.pointer none, .bool false]) w := by kernel_rfl
attribute [local go_sem] run_as1 run_as2 run_as3 run_nums0 run_nums1 run_nums2 run_nums3 run_nums4 run_nums5 run_nums6 run_nums7 run_nums8 run_nums9 run_nums10
set_option maxRecDepth 100000 in
set_option maxHeartbeats 8000000 in
theorem line_two (w : World) (r gF sc : Nat) (F : List ByteArray) (cfg : List Int) (v : Value) (h : RowAt w r gF F 0) (hF : 0 < F.length) (hFs : ∀ s ∈ F, s.size ≤ 4294967296) (hs : Blk w sc (scrC cfg v) 26) (hc : cfg.length = 11) :
    Calls Tryz.prog 13 #[.pointer (some ⟨r, 0, none⟩), .int .i64 2, .pointer (some ⟨sc, 0, none⟩)] w fun e w' => ∃ fv, e = .returned fv ∧ FaultV w' w.heap.size fv (cfgF F) ∧ Fr [r, sc] w w' ∧ ∃ cfg' : List Int, cfg'.length = 11 ∧ Blk w' sc (scrC cfg' v) 26 ∧ (cfgF F = none → cfg' = (List.range 11).map (fun i => numN F (i + 1))) := by
  have HV := Lib.hid (fun W (h : RowAt W r gF F 12) => over_any W r gF 12 F h)
  have HN := Lib.hid (fun W k (h : RowAt W r gF F k) => number_any W r gF k F h hFs)
  have HU := Lib.hid (fun W => show Calls Tryz.prog 24 #[.pointer (some ⟨sc, 0, none⟩)] W fun e w' => e = .returned (.agg #[.iface 80 (.pointer (some ⟨sc, 0, none⟩)), .iface 80 (.pointer (some ⟨sc, 1, none⟩)), .iface 80 (.pointer (some ⟨sc, 2, none⟩)), .iface 80 (.pointer (some ⟨sc, 3, none⟩)), .iface 80 (.pointer (some ⟨sc, 4, none⟩)), .iface 80 (.pointer (some ⟨sc, 5, none⟩)), .iface 80 (.pointer (some ⟨sc, 6, none⟩)), .iface 80 (.pointer (some ⟨sc, 7, none⟩)), .iface 80 (.pointer (some ⟨sc, 8, none⟩)), .iface 82 (.pointer (some ⟨sc, 9, none⟩)), .iface 80 (.pointer (some ⟨sc, 10, none⟩))]) ∧ Fr [] W w' from numbers_any W sc)
  have HR := Lib.hid h
  have HC := Lib.hid (And.intro hs hc)
  have HFL := Lib.hid hF
  have HNE := Lib.hid (show r ≠ sc ∧ gF ≠ sc from ⟨h.hd.ne hs (by decide), h.fs.ne hs (by decide)⟩)
  have c0 := h.hd.at 0 (v := .slice (some ⟨gF, 0, none⟩) F.length F.length) rfl
  have cs : w.cell? ⟨gF, 0, none⟩ = some (.string (fld F 0)) := h.at (by unfold fld; rw [List.getD_eq_getElem?_getD, List.getElem?_eq_getElem hF, Option.getD_some])
  have c1 := h.hd.at 1 (v := .int .i64 0) rfl
  have g1 := h.hd.free 1
  have k0 : (0 : Int) < (F.length : Int) := by omega
  obtain ⟨N, hN⟩ : ∃ N, N = F.length := ⟨_, rfl⟩
  have HNN := Lib.hid hN
  rw [← hN] at c0 k0
  obtain ⟨s, hs'⟩ : ∃ s, s = fld F 0 := ⟨_, rfl⟩
  have HS := Lib.hid hs'
  rw [← hs'] at cs
  obtain ⟨fl, hfl⟩ : ∃ fl, fl = cfgF F := ⟨_, rfl⟩
  have HL := Lib.hid hfl
  rw [← hfl]
  clear h hF hN hs' hfl hs hc hFs
  by_cases hh : s = sizeB
  · have e1 : (s.toList == (⟨#[99, 111, 110, 102, 105, 103]⟩ : ByteArray).toList) = true := beq_is hh
    have e2 : (s.toList == [99, 111, 110, 102, 105, 103]) = true := by rw [hh]; kernel_rfl
    have HE := Lib.hid (show fl = numsF F 11 1 from by rw [HL.out]; unfold cfgF; rw [if_pos (by rw [← HS.out, hh])])
    obtain ⟨w1, hw1⟩ : ∃ w1, w.setCell ⟨r, 1, none⟩ (.int .i64 1) = w1 := ⟨_, rfl⟩
    have HW1 := Lib.hid hw1
    have H1 := Lib.hid (show RowAt w1 r gF F 1 ∧ Blk w1 sc (scrC cfg v) 26 ∧ Fr [r] w w1 from ⟨by rw [← hw1]; exact HR.out.set 1 HFL.out, by rw [← hw1]; exact HC.out.1.other _ _ (by have := HNE.out.1; simp; omega), by rw [← hw1]; exact (Fr.refl _ _).setCell _ _ (.inl (by simp))⟩)
    clear hh hw1
    go_enter Tryz.func13, Tryz.ntmps13
    go_upto_region 11 with fail
    rw [HW1.out]
    clear c0 cs c1 g1
    go_wp2_with fail
    (with_reducible refine (HU.out _).mono ?_)
    rintro e w2 ⟨rfl, f2⟩
    have H2 := Lib.hid (show RowAt w2 r gF F 1 ∧ Blk w2 sc (scrC cfg v) 26 ∧ Fr [r] w w2 from ⟨H1.out.1.fr f2 (by simp) (by simp), f2.blk H1.out.2.1 (by simp), H1.out.2.2.trans f2 (by simp)⟩)
    clear f2
    go_wp2_with fail
    go_loopw [67] (fun i wr => ∃ k : Nat, i = .int .i64 k ∧ k ≤ 11 ∧ RowAt wr r gF F (k + 1) ∧ Blk wr sc (scrC (cfgAt F k cfg) v) 26 ∧ fl = numsF F (11 - k) (k + 1) ∧ Fr [r, sc] w wr) (fun i _ => 11 - (match i with | .int _ q => q.toNat | _ => 0))
    case atStart => exact ⟨0, rfl, by omega, H2.out.1, by simpa [cfgAt] using H2.out.2.1, HE.out, H2.out.2.2.mono (by simp)⟩
    case round =>
      obtain ⟨k, rfl, hk, hr, hb, hf, hfr⟩ := hrel
      obtain ⟨wi, hwi⟩ : ∃ wi : World, wi = wr := ⟨_, rfl⟩
      rw [← hwi] at hr hb hfr ⊢
      clear hwi
      have HI := Lib.hid (And.intro hr (And.intro hb (And.intro hf hfr)))
      clear hr hb hf hfr
      have hcs : k = 0 ∨ k = 1 ∨ k = 2 ∨ k = 3 ∨ k = 4 ∨ k = 5 ∨ k = 6 ∨ k = 7 ∨ k = 8 ∨ k = 9 ∨ k = 10 ∨ k = 11 := by omega
      rcases hcs with rfl | rfl | rfl | rfl | rfl | rfl | rfl | rfl | rfl | rfl | rfl | rfl
      rotate_right
      · have HO := Lib.hid (show fl = overF F 12 from HI.out.2.2.1)
        clear hk
        go_wp2_with fail
        (with_reducible refine (HV.out _ HI.out.1).mono ?_)
        rintro e w3 ⟨fv, rfl, hp⟩
        rw [← HO.out] at hp
        go_wp2
        go_ret
        refine ⟨_, rfl, hp.2.1.from HI.out.2.2.2.size, HI.out.2.2.2.trans hp.2.2 (fun x hx => .inl (by simp at hx; simp [hx])), cfgAt F 11 cfg, by rw [cfgAt_len (by rw [HC.out.2]; exact Nat.le_refl _), HC.out.2], hp.2.2.blk HI.out.2.1 (by have := HNE.out.1; simp; omega), fun _ => ?_⟩
        unfold cfgAt
        rw [List.drop_eq_nil_of_le (by rw [HC.out.2]; exact Nat.le_refl _), List.append_nil]
      · have HO := Lib.hid (show fl = thenF (numF F 1) (numsF F 10 2) from HI.out.2.2.1)
        clear hk
        go_wp2_with fail
        (with_reducible refine (HN.out _ 1 HI.out.1).mono ?_)
        rintro e w3 ⟨fv, rfl, hp⟩
        cases hq : numF F 1 with
        | some q =>
          rw [hq] at hp
          obtain ⟨b, rfl, hb, hn⟩ : ∃ b, fv = .pointer (some ⟨b, 0, none⟩) ∧ Blk w3 b #[.int .i64 q.1, .int .i64 q.2] 53 ∧ wi.heap.size ≤ b := hp.2.1
          have HP := Lib.hid (And.intro hb (And.intro hn hp.2.2))
          have HE := Lib.hid (show fl = some q by rw [HO.out, hq]; rfl)
          clear hp hb hn hq
          obtain rfl := HE.out
          go_wp2
          go_ret
          exact ⟨_, rfl, ⟨b, rfl, HP.out.1, Nat.le_trans HI.out.2.2.2.size HP.out.2.1⟩, HI.out.2.2.2.trans HP.out.2.2 (fun x hx => .inl (by simp at hx; simp [hx])), cfgAt F 0 cfg, by rw [cfgAt_len (by rw [HC.out.2]; decide), HC.out.2], HP.out.2.2.blk HI.out.2.1 (by have := HNE.out.1; simp; omega), fun h => by cases h⟩
        | none =>
          rw [hq] at hp
          obtain rfl : fv = .pointer none := hp.2.1
          have hlt := numF_none hq
          have hk2 : nextK F 1 = 2 := by unfold nextK; rw [if_pos hlt]
          have HE := Lib.hid (show fl = numsF F 10 2 by rw [HO.out, hq]; rfl)
          have hb3 := hp.2.2.blk HI.out.2.1 (by have := HNE.out.1; simp; omega)
          have hl := HC.out.2
          have d0 := hb3.at 0 (scrC_at (by rw [cfgAt_len (by rw [hl]; decide), hl]; decide))
          have g0 := hb3.free 0
          have hr3 := hp.1
          rw [hk2] at hr3
          have HP := Lib.hid (And.intro hr3 (And.intro hb3 hp.2.2))
          clear hp hq hlt hk2 hb3 hl hr3
          generalize (cfgAt F 0 cfg).getD 0 0 = y at d0
          go_wp2
          have hl := HC.out.2
          have hset := HP.out.2.1.set 0 (.int .i64 (numN F 1))
          rw [scrC_set _ (by rw [cfgAt_len (by rw [hl]; decide), hl]; decide), cfgAt_set (by rw [hl]; decide)] at hset
          have hfr : Fr [sc] w3 (w3.setCell ⟨sc, 0, none⟩ (.int .i64 (numN F 1))) := (Fr.refl _ _).setCell _ _ (.inl (by simp))
          exact ⟨⟨1, rfl, by decide, HP.out.1.fr hfr (by have := HNE.out.1; simp; omega) (by have := HNE.out.2; simp; omega), hset, HE.out, (HI.out.2.2.2.trans HP.out.2.2 (fun x hx => .inl (by simp at hx; simp [hx]))).trans hfr (fun x hx => .inl (by simp at hx; simp [hx]))⟩, by decide⟩
      · have HO := Lib.hid (show fl = thenF (numF F 2) (numsF F 9 3) from HI.out.2.2.1)
        clear hk
        go_wp2_with fail
        (with_reducible refine (HN.out _ 2 HI.out.1).mono ?_)
        rintro e w3 ⟨fv, rfl, hp⟩
        cases hq : numF F 2 with
        | some q =>
          rw [hq] at hp
          obtain ⟨b, rfl, hb, hn⟩ : ∃ b, fv = .pointer (some ⟨b, 0, none⟩) ∧ Blk w3 b #[.int .i64 q.1, .int .i64 q.2] 53 ∧ wi.heap.size ≤ b := hp.2.1
          have HP := Lib.hid (And.intro hb (And.intro hn hp.2.2))
          have HE := Lib.hid (show fl = some q by rw [HO.out, hq]; rfl)
          clear hp hb hn hq
          obtain rfl := HE.out
          go_wp2
          go_ret
          exact ⟨_, rfl, ⟨b, rfl, HP.out.1, Nat.le_trans HI.out.2.2.2.size HP.out.2.1⟩, HI.out.2.2.2.trans HP.out.2.2 (fun x hx => .inl (by simp at hx; simp [hx])), cfgAt F 1 cfg, by rw [cfgAt_len (by rw [HC.out.2]; decide), HC.out.2], HP.out.2.2.blk HI.out.2.1 (by have := HNE.out.1; simp; omega), fun h => by cases h⟩
        | none =>
          rw [hq] at hp
          obtain rfl : fv = .pointer none := hp.2.1
          have hlt := numF_none hq
          have hk2 : nextK F 2 = 3 := by unfold nextK; rw [if_pos hlt]
          have HE := Lib.hid (show fl = numsF F 9 3 by rw [HO.out, hq]; rfl)
          have hb3 := hp.2.2.blk HI.out.2.1 (by have := HNE.out.1; simp; omega)
          have hl := HC.out.2
          have d0 := hb3.at 1 (scrC_at (by rw [cfgAt_len (by rw [hl]; decide), hl]; decide))
          have g0 := hb3.free 1
          have hr3 := hp.1
          rw [hk2] at hr3
          have HP := Lib.hid (And.intro hr3 (And.intro hb3 hp.2.2))
          clear hp hq hlt hk2 hb3 hl hr3
          generalize (cfgAt F 1 cfg).getD 1 0 = y at d0
          go_wp2
          have hl := HC.out.2
          have hset := HP.out.2.1.set 1 (.int .i64 (numN F 2))
          rw [scrC_set _ (by rw [cfgAt_len (by rw [hl]; decide), hl]; decide), cfgAt_set (by rw [hl]; decide)] at hset
          have hfr : Fr [sc] w3 (w3.setCell ⟨sc, 1, none⟩ (.int .i64 (numN F 2))) := (Fr.refl _ _).setCell _ _ (.inl (by simp))
          exact ⟨⟨2, rfl, by decide, HP.out.1.fr hfr (by have := HNE.out.1; simp; omega) (by have := HNE.out.2; simp; omega), hset, HE.out, (HI.out.2.2.2.trans HP.out.2.2 (fun x hx => .inl (by simp at hx; simp [hx]))).trans hfr (fun x hx => .inl (by simp at hx; simp [hx]))⟩, by decide⟩
      · have HO := Lib.hid (show fl = thenF (numF F 3) (numsF F 8 4) from HI.out.2.2.1)
        clear hk
        go_wp2_with fail
        (with_reducible refine (HN.out _ 3 HI.out.1).mono ?_)
        rintro e w3 ⟨fv, rfl, hp⟩
        cases hq : numF F 3 with
        | some q =>
          rw [hq] at hp
          obtain ⟨b, rfl, hb, hn⟩ : ∃ b, fv = .pointer (some ⟨b, 0, none⟩) ∧ Blk w3 b #[.int .i64 q.1, .int .i64 q.2] 53 ∧ wi.heap.size ≤ b := hp.2.1
          have HP := Lib.hid (And.intro hb (And.intro hn hp.2.2))
          have HE := Lib.hid (show fl = some q by rw [HO.out, hq]; rfl)
          clear hp hb hn hq
          obtain rfl := HE.out
          go_wp2
          go_ret
          exact ⟨_, rfl, ⟨b, rfl, HP.out.1, Nat.le_trans HI.out.2.2.2.size HP.out.2.1⟩, HI.out.2.2.2.trans HP.out.2.2 (fun x hx => .inl (by simp at hx; simp [hx])), cfgAt F 2 cfg, by rw [cfgAt_len (by rw [HC.out.2]; decide), HC.out.2], HP.out.2.2.blk HI.out.2.1 (by have := HNE.out.1; simp; omega), fun h => by cases h⟩
        | none =>
          rw [hq] at hp
          obtain rfl : fv = .pointer none := hp.2.1
          have hlt := numF_none hq
          have hk2 : nextK F 3 = 4 := by unfold nextK; rw [if_pos hlt]
          have HE := Lib.hid (show fl = numsF F 8 4 by rw [HO.out, hq]; rfl)
          have hb3 := hp.2.2.blk HI.out.2.1 (by have := HNE.out.1; simp; omega)
          have hl := HC.out.2
          have d0 := hb3.at 2 (scrC_at (by rw [cfgAt_len (by rw [hl]; decide), hl]; decide))
          have g0 := hb3.free 2
          have hr3 := hp.1
          rw [hk2] at hr3
          have HP := Lib.hid (And.intro hr3 (And.intro hb3 hp.2.2))
          clear hp hq hlt hk2 hb3 hl hr3
          generalize (cfgAt F 2 cfg).getD 2 0 = y at d0
          go_wp2
          have hl := HC.out.2
          have hset := HP.out.2.1.set 2 (.int .i64 (numN F 3))
          rw [scrC_set _ (by rw [cfgAt_len (by rw [hl]; decide), hl]; decide), cfgAt_set (by rw [hl]; decide)] at hset
          have hfr : Fr [sc] w3 (w3.setCell ⟨sc, 2, none⟩ (.int .i64 (numN F 3))) := (Fr.refl _ _).setCell _ _ (.inl (by simp))
          exact ⟨⟨3, rfl, by decide, HP.out.1.fr hfr (by have := HNE.out.1; simp; omega) (by have := HNE.out.2; simp; omega), hset, HE.out, (HI.out.2.2.2.trans HP.out.2.2 (fun x hx => .inl (by simp at hx; simp [hx]))).trans hfr (fun x hx => .inl (by simp at hx; simp [hx]))⟩, by decide⟩
      · have HO := Lib.hid (show fl = thenF (numF F 4) (numsF F 7 5) from HI.out.2.2.1)
        clear hk
        go_wp2_with fail
        (with_reducible refine (HN.out _ 4 HI.out.1).mono ?_)
        rintro e w3 ⟨fv, rfl, hp⟩
        cases hq : numF F 4 with
        | some q =>
          rw [hq] at hp
          obtain ⟨b, rfl, hb, hn⟩ : ∃ b, fv = .pointer (some ⟨b, 0, none⟩) ∧ Blk w3 b #[.int .i64 q.1, .int .i64 q.2] 53 ∧ wi.heap.size ≤ b := hp.2.1
          have HP := Lib.hid (And.intro hb (And.intro hn hp.2.2))
          have HE := Lib.hid (show fl = some q by rw [HO.out, hq]; rfl)
          clear hp hb hn hq
          obtain rfl := HE.out
          go_wp2
          go_ret
          exact ⟨_, rfl, ⟨b, rfl, HP.out.1, Nat.le_trans HI.out.2.2.2.size HP.out.2.1⟩, HI.out.2.2.2.trans HP.out.2.2 (fun x hx => .inl (by simp at hx; simp [hx])), cfgAt F 3 cfg, by rw [cfgAt_len (by rw [HC.out.2]; decide), HC.out.2], HP.out.2.2.blk HI.out.2.1 (by have := HNE.out.1; simp; omega), fun h => by cases h⟩
        | none =>
          rw [hq] at hp
          obtain rfl : fv = .pointer none := hp.2.1
          have hlt := numF_none hq
          have hk2 : nextK F 4 = 5 := by unfold nextK; rw [if_pos hlt]
          have HE := Lib.hid (show fl = numsF F 7 5 by rw [HO.out, hq]; rfl)
          have hb3 := hp.2.2.blk HI.out.2.1 (by have := HNE.out.1; simp; omega)
          have hl := HC.out.2
          have d0 := hb3.at 3 (scrC_at (by rw [cfgAt_len (by rw [hl]; decide), hl]; decide))
          have g0 := hb3.free 3
          have hr3 := hp.1
          rw [hk2] at hr3
          have HP := Lib.hid (And.intro hr3 (And.intro hb3 hp.2.2))
          clear hp hq hlt hk2 hb3 hl hr3
          generalize (cfgAt F 3 cfg).getD 3 0 = y at d0
          go_wp2
          have hl := HC.out.2
          have hset := HP.out.2.1.set 3 (.int .i64 (numN F 4))
          rw [scrC_set _ (by rw [cfgAt_len (by rw [hl]; decide), hl]; decide), cfgAt_set (by rw [hl]; decide)] at hset
          have hfr : Fr [sc] w3 (w3.setCell ⟨sc, 3, none⟩ (.int .i64 (numN F 4))) := (Fr.refl _ _).setCell _ _ (.inl (by simp))
          exact ⟨⟨4, rfl, by decide, HP.out.1.fr hfr (by have := HNE.out.1; simp; omega) (by have := HNE.out.2; simp; omega), hset, HE.out, (HI.out.2.2.2.trans HP.out.2.2 (fun x hx => .inl (by simp at hx; simp [hx]))).trans hfr (fun x hx => .inl (by simp at hx; simp [hx]))⟩, by decide⟩
      · have HO := Lib.hid (show fl = thenF (numF F 5) (numsF F 6 6) from HI.out.2.2.1)
        clear hk
        go_wp2_with fail
        (with_reducible refine (HN.out _ 5 HI.out.1).mono ?_)
        rintro e w3 ⟨fv, rfl, hp⟩
        cases hq : numF F 5 with
        | some q =>
          rw [hq] at hp
          obtain ⟨b, rfl, hb, hn⟩ : ∃ b, fv = .pointer (some ⟨b, 0, none⟩) ∧ Blk w3 b #[.int .i64 q.1, .int .i64 q.2] 53 ∧ wi.heap.size ≤ b := hp.2.1
          have HP := Lib.hid (And.intro hb (And.intro hn hp.2.2))
          have HE := Lib.hid (show fl = some q by rw [HO.out, hq]; rfl)
          clear hp hb hn hq
          obtain rfl := HE.out
          go_wp2
          go_ret
          exact ⟨_, rfl, ⟨b, rfl, HP.out.1, Nat.le_trans HI.out.2.2.2.size HP.out.2.1⟩, HI.out.2.2.2.trans HP.out.2.2 (fun x hx => .inl (by simp at hx; simp [hx])), cfgAt F 4 cfg, by rw [cfgAt_len (by rw [HC.out.2]; decide), HC.out.2], HP.out.2.2.blk HI.out.2.1 (by have := HNE.out.1; simp; omega), fun h => by cases h⟩
        | none =>
          rw [hq] at hp
          obtain rfl : fv = .pointer none := hp.2.1
          have hlt := numF_none hq
          have hk2 : nextK F 5 = 6 := by unfold nextK; rw [if_pos hlt]
          have HE := Lib.hid (show fl = numsF F 6 6 by rw [HO.out, hq]; rfl)
          have hb3 := hp.2.2.blk HI.out.2.1 (by have := HNE.out.1; simp; omega)
          have hl := HC.out.2
          have d0 := hb3.at 4 (scrC_at (by rw [cfgAt_len (by rw [hl]; decide), hl]; decide))
          have g0 := hb3.free 4
          have hr3 := hp.1
          rw [hk2] at hr3
          have HP := Lib.hid (And.intro hr3 (And.intro hb3 hp.2.2))
          clear hp hq hlt hk2 hb3 hl hr3
          generalize (cfgAt F 4 cfg).getD 4 0 = y at d0
          go_wp2
          have hl := HC.out.2
          have hset := HP.out.2.1.set 4 (.int .i64 (numN F 5))
          rw [scrC_set _ (by rw [cfgAt_len (by rw [hl]; decide), hl]; decide), cfgAt_set (by rw [hl]; decide)] at hset
          have hfr : Fr [sc] w3 (w3.setCell ⟨sc, 4, none⟩ (.int .i64 (numN F 5))) := (Fr.refl _ _).setCell _ _ (.inl (by simp))
          exact ⟨⟨5, rfl, by decide, HP.out.1.fr hfr (by have := HNE.out.1; simp; omega) (by have := HNE.out.2; simp; omega), hset, HE.out, (HI.out.2.2.2.trans HP.out.2.2 (fun x hx => .inl (by simp at hx; simp [hx]))).trans hfr (fun x hx => .inl (by simp at hx; simp [hx]))⟩, by decide⟩
      · have HO := Lib.hid (show fl = thenF (numF F 6) (numsF F 5 7) from HI.out.2.2.1)
        clear hk
        go_wp2_with fail
        (with_reducible refine (HN.out _ 6 HI.out.1).mono ?_)
        rintro e w3 ⟨fv, rfl, hp⟩
        cases hq : numF F 6 with
        | some q =>
          rw [hq] at hp
          obtain ⟨b, rfl, hb, hn⟩ : ∃ b, fv = .pointer (some ⟨b, 0, none⟩) ∧ Blk w3 b #[.int .i64 q.1, .int .i64 q.2] 53 ∧ wi.heap.size ≤ b := hp.2.1
          have HP := Lib.hid (And.intro hb (And.intro hn hp.2.2))
          have HE := Lib.hid (show fl = some q by rw [HO.out, hq]; rfl)
          clear hp hb hn hq
          obtain rfl := HE.out
          go_wp2
          go_ret
          exact ⟨_, rfl, ⟨b, rfl, HP.out.1, Nat.le_trans HI.out.2.2.2.size HP.out.2.1⟩, HI.out.2.2.2.trans HP.out.2.2 (fun x hx => .inl (by simp at hx; simp [hx])), cfgAt F 5 cfg, by rw [cfgAt_len (by rw [HC.out.2]; decide), HC.out.2], HP.out.2.2.blk HI.out.2.1 (by have := HNE.out.1; simp; omega), fun h => by cases h⟩
        | none =>
          rw [hq] at hp
          obtain rfl : fv = .pointer none := hp.2.1
          have hlt := numF_none hq
          have hk2 : nextK F 6 = 7 := by unfold nextK; rw [if_pos hlt]
          have HE := Lib.hid (show fl = numsF F 5 7 by rw [HO.out, hq]; rfl)
          have hb3 := hp.2.2.blk HI.out.2.1 (by have := HNE.out.1; simp; omega)
          have hl := HC.out.2
          have d0 := hb3.at 5 (scrC_at (by rw [cfgAt_len (by rw [hl]; decide), hl]; decide))
          have g0 := hb3.free 5
          have hr3 := hp.1
          rw [hk2] at hr3
          have HP := Lib.hid (And.intro hr3 (And.intro hb3 hp.2.2))
          clear hp hq hlt hk2 hb3 hl hr3
          generalize (cfgAt F 5 cfg).getD 5 0 = y at d0
          go_wp2
          have hl := HC.out.2
          have hset := HP.out.2.1.set 5 (.int .i64 (numN F 6))
          rw [scrC_set _ (by rw [cfgAt_len (by rw [hl]; decide), hl]; decide), cfgAt_set (by rw [hl]; decide)] at hset
          have hfr : Fr [sc] w3 (w3.setCell ⟨sc, 5, none⟩ (.int .i64 (numN F 6))) := (Fr.refl _ _).setCell _ _ (.inl (by simp))
          exact ⟨⟨6, rfl, by decide, HP.out.1.fr hfr (by have := HNE.out.1; simp; omega) (by have := HNE.out.2; simp; omega), hset, HE.out, (HI.out.2.2.2.trans HP.out.2.2 (fun x hx => .inl (by simp at hx; simp [hx]))).trans hfr (fun x hx => .inl (by simp at hx; simp [hx]))⟩, by decide⟩
      · have HO := Lib.hid (show fl = thenF (numF F 7) (numsF F 4 8) from HI.out.2.2.1)
        clear hk
        go_wp2_with fail
        (with_reducible refine (HN.out _ 7 HI.out.1).mono ?_)
        rintro e w3 ⟨fv, rfl, hp⟩
        cases hq : numF F 7 with
        | some q =>
          rw [hq] at hp
          obtain ⟨b, rfl, hb, hn⟩ : ∃ b, fv = .pointer (some ⟨b, 0, none⟩) ∧ Blk w3 b #[.int .i64 q.1, .int .i64 q.2] 53 ∧ wi.heap.size ≤ b := hp.2.1
          have HP := Lib.hid (And.intro hb (And.intro hn hp.2.2))
          have HE := Lib.hid (show fl = some q by rw [HO.out, hq]; rfl)
          clear hp hb hn hq
          obtain rfl := HE.out
          go_wp2
          go_ret
          exact ⟨_, rfl, ⟨b, rfl, HP.out.1, Nat.le_trans HI.out.2.2.2.size HP.out.2.1⟩, HI.out.2.2.2.trans HP.out.2.2 (fun x hx => .inl (by simp at hx; simp [hx])), cfgAt F 6 cfg, by rw [cfgAt_len (by rw [HC.out.2]; decide), HC.out.2], HP.out.2.2.blk HI.out.2.1 (by have := HNE.out.1; simp; omega), fun h => by cases h⟩
        | none =>
          rw [hq] at hp
          obtain rfl : fv = .pointer none := hp.2.1
          have hlt := numF_none hq
          have hk2 : nextK F 7 = 8 := by unfold nextK; rw [if_pos hlt]
          have HE := Lib.hid (show fl = numsF F 4 8 by rw [HO.out, hq]; rfl)
          have hb3 := hp.2.2.blk HI.out.2.1 (by have := HNE.out.1; simp; omega)
          have hl := HC.out.2
          have d0 := hb3.at 6 (scrC_at (by rw [cfgAt_len (by rw [hl]; decide), hl]; decide))
          have g0 := hb3.free 6
          have hr3 := hp.1
          rw [hk2] at hr3
          have HP := Lib.hid (And.intro hr3 (And.intro hb3 hp.2.2))
          clear hp hq hlt hk2 hb3 hl hr3
          generalize (cfgAt F 6 cfg).getD 6 0 = y at d0
          go_wp2
          have hl := HC.out.2
          have hset := HP.out.2.1.set 6 (.int .i64 (numN F 7))
          rw [scrC_set _ (by rw [cfgAt_len (by rw [hl]; decide), hl]; decide), cfgAt_set (by rw [hl]; decide)] at hset
          have hfr : Fr [sc] w3 (w3.setCell ⟨sc, 6, none⟩ (.int .i64 (numN F 7))) := (Fr.refl _ _).setCell _ _ (.inl (by simp))
          exact ⟨⟨7, rfl, by decide, HP.out.1.fr hfr (by have := HNE.out.1; simp; omega) (by have := HNE.out.2; simp; omega), hset, HE.out, (HI.out.2.2.2.trans HP.out.2.2 (fun x hx => .inl (by simp at hx; simp [hx]))).trans hfr (fun x hx => .inl (by simp at hx; simp [hx]))⟩, by decide⟩
      · have HO := Lib.hid (show fl = thenF (numF F 8) (numsF F 3 9) from HI.out.2.2.1)
        clear hk
        go_wp2_with fail
        (with_reducible refine (HN.out _ 8 HI.out.1).mono ?_)
        rintro e w3 ⟨fv, rfl, hp⟩
        cases hq : numF F 8 with
        | some q =>
          rw [hq] at hp
          obtain ⟨b, rfl, hb, hn⟩ : ∃ b, fv = .pointer (some ⟨b, 0, none⟩) ∧ Blk w3 b #[.int .i64 q.1, .int .i64 q.2] 53 ∧ wi.heap.size ≤ b := hp.2.1
          have HP := Lib.hid (And.intro hb (And.intro hn hp.2.2))
          have HE := Lib.hid (show fl = some q by rw [HO.out, hq]; rfl)
          clear hp hb hn hq
          obtain rfl := HE.out
          go_wp2
          go_ret
          exact ⟨_, rfl, ⟨b, rfl, HP.out.1, Nat.le_trans HI.out.2.2.2.size HP.out.2.1⟩, HI.out.2.2.2.trans HP.out.2.2 (fun x hx => .inl (by simp at hx; simp [hx])), cfgAt F 7 cfg, by rw [cfgAt_len (by rw [HC.out.2]; decide), HC.out.2], HP.out.2.2.blk HI.out.2.1 (by have := HNE.out.1; simp; omega), fun h => by cases h⟩
        | none =>
          rw [hq] at hp
          obtain rfl : fv = .pointer none := hp.2.1
          have hlt := numF_none hq
          have hk2 : nextK F 8 = 9 := by unfold nextK; rw [if_pos hlt]
          have HE := Lib.hid (show fl = numsF F 3 9 by rw [HO.out, hq]; rfl)
          have hb3 := hp.2.2.blk HI.out.2.1 (by have := HNE.out.1; simp; omega)
          have hl := HC.out.2
          have d0 := hb3.at 7 (scrC_at (by rw [cfgAt_len (by rw [hl]; decide), hl]; decide))
          have g0 := hb3.free 7
          have hr3 := hp.1
          rw [hk2] at hr3
          have HP := Lib.hid (And.intro hr3 (And.intro hb3 hp.2.2))
          clear hp hq hlt hk2 hb3 hl hr3
          generalize (cfgAt F 7 cfg).getD 7 0 = y at d0
          go_wp2
          have hl := HC.out.2
          have hset := HP.out.2.1.set 7 (.int .i64 (numN F 8))
          rw [scrC_set _ (by rw [cfgAt_len (by rw [hl]; decide), hl]; decide), cfgAt_set (by rw [hl]; decide)] at hset
          have hfr : Fr [sc] w3 (w3.setCell ⟨sc, 7, none⟩ (.int .i64 (numN F 8))) := (Fr.refl _ _).setCell _ _ (.inl (by simp))
          exact ⟨⟨8, rfl, by decide, HP.out.1.fr hfr (by have := HNE.out.1; simp; omega) (by have := HNE.out.2; simp; omega), hset, HE.out, (HI.out.2.2.2.trans HP.out.2.2 (fun x hx => .inl (by simp at hx; simp [hx]))).trans hfr (fun x hx => .inl (by simp at hx; simp [hx]))⟩, by decide⟩
      · have HO := Lib.hid (show fl = thenF (numF F 9) (numsF F 2 10) from HI.out.2.2.1)
        clear hk
        go_wp2_with fail
        (with_reducible refine (HN.out _ 9 HI.out.1).mono ?_)
        rintro e w3 ⟨fv, rfl, hp⟩
        cases hq : numF F 9 with
        | some q =>
          rw [hq] at hp
          obtain ⟨b, rfl, hb, hn⟩ : ∃ b, fv = .pointer (some ⟨b, 0, none⟩) ∧ Blk w3 b #[.int .i64 q.1, .int .i64 q.2] 53 ∧ wi.heap.size ≤ b := hp.2.1
          have HP := Lib.hid (And.intro hb (And.intro hn hp.2.2))
          have HE := Lib.hid (show fl = some q by rw [HO.out, hq]; rfl)
          clear hp hb hn hq
          obtain rfl := HE.out
          go_wp2
          go_ret
          exact ⟨_, rfl, ⟨b, rfl, HP.out.1, Nat.le_trans HI.out.2.2.2.size HP.out.2.1⟩, HI.out.2.2.2.trans HP.out.2.2 (fun x hx => .inl (by simp at hx; simp [hx])), cfgAt F 8 cfg, by rw [cfgAt_len (by rw [HC.out.2]; decide), HC.out.2], HP.out.2.2.blk HI.out.2.1 (by have := HNE.out.1; simp; omega), fun h => by cases h⟩
        | none =>
          rw [hq] at hp
          obtain rfl : fv = .pointer none := hp.2.1
          have hlt := numF_none hq
          have hk2 : nextK F 9 = 10 := by unfold nextK; rw [if_pos hlt]
          have HE := Lib.hid (show fl = numsF F 2 10 by rw [HO.out, hq]; rfl)
          have hb3 := hp.2.2.blk HI.out.2.1 (by have := HNE.out.1; simp; omega)
          have hl := HC.out.2
          have d0 := hb3.at 8 (scrC_at (by rw [cfgAt_len (by rw [hl]; decide), hl]; decide))
          have g0 := hb3.free 8
          have hr3 := hp.1
          rw [hk2] at hr3
          have HP := Lib.hid (And.intro hr3 (And.intro hb3 hp.2.2))
          clear hp hq hlt hk2 hb3 hl hr3
          generalize (cfgAt F 8 cfg).getD 8 0 = y at d0
          go_wp2
          have hl := HC.out.2
          have hset := HP.out.2.1.set 8 (.int .i64 (numN F 9))
          rw [scrC_set _ (by rw [cfgAt_len (by rw [hl]; decide), hl]; decide), cfgAt_set (by rw [hl]; decide)] at hset
          have hfr : Fr [sc] w3 (w3.setCell ⟨sc, 8, none⟩ (.int .i64 (numN F 9))) := (Fr.refl _ _).setCell _ _ (.inl (by simp))
          exact ⟨⟨9, rfl, by decide, HP.out.1.fr hfr (by have := HNE.out.1; simp; omega) (by have := HNE.out.2; simp; omega), hset, HE.out, (HI.out.2.2.2.trans HP.out.2.2 (fun x hx => .inl (by simp at hx; simp [hx]))).trans hfr (fun x hx => .inl (by simp at hx; simp [hx]))⟩, by decide⟩
      · have HO := Lib.hid (show fl = thenF (numF F 10) (numsF F 1 11) from HI.out.2.2.1)
        clear hk
        go_wp2_with fail
        (with_reducible refine (HN.out _ 10 HI.out.1).mono ?_)
        rintro e w3 ⟨fv, rfl, hp⟩
        cases hq : numF F 10 with
        | some q =>
          rw [hq] at hp
          obtain ⟨b, rfl, hb, hn⟩ : ∃ b, fv = .pointer (some ⟨b, 0, none⟩) ∧ Blk w3 b #[.int .i64 q.1, .int .i64 q.2] 53 ∧ wi.heap.size ≤ b := hp.2.1
          have HP := Lib.hid (And.intro hb (And.intro hn hp.2.2))
          have HE := Lib.hid (show fl = some q by rw [HO.out, hq]; rfl)
          clear hp hb hn hq
          obtain rfl := HE.out
          go_wp2
          go_ret
          exact ⟨_, rfl, ⟨b, rfl, HP.out.1, Nat.le_trans HI.out.2.2.2.size HP.out.2.1⟩, HI.out.2.2.2.trans HP.out.2.2 (fun x hx => .inl (by simp at hx; simp [hx])), cfgAt F 9 cfg, by rw [cfgAt_len (by rw [HC.out.2]; decide), HC.out.2], HP.out.2.2.blk HI.out.2.1 (by have := HNE.out.1; simp; omega), fun h => by cases h⟩
        | none =>
          rw [hq] at hp
          obtain rfl : fv = .pointer none := hp.2.1
          have hlt := numF_none hq
          have hk2 : nextK F 10 = 11 := by unfold nextK; rw [if_pos hlt]
          have HE := Lib.hid (show fl = numsF F 1 11 by rw [HO.out, hq]; rfl)
          have hb3 := hp.2.2.blk HI.out.2.1 (by have := HNE.out.1; simp; omega)
          have hl := HC.out.2
          have d0 := hb3.at 9 (scrC_at (by rw [cfgAt_len (by rw [hl]; decide), hl]; decide))
          have g0 := hb3.free 9
          have hr3 := hp.1
          rw [hk2] at hr3
          have HP := Lib.hid (And.intro hr3 (And.intro hb3 hp.2.2))
          clear hp hq hlt hk2 hb3 hl hr3
          generalize (cfgAt F 9 cfg).getD 9 0 = y at d0
          go_wp2
          have hl := HC.out.2
          have hset := HP.out.2.1.set 9 (.int .i64 (numN F 10))
          rw [scrC_set _ (by rw [cfgAt_len (by rw [hl]; decide), hl]; decide), cfgAt_set (by rw [hl]; decide)] at hset
          have hfr : Fr [sc] w3 (w3.setCell ⟨sc, 9, none⟩ (.int .i64 (numN F 10))) := (Fr.refl _ _).setCell _ _ (.inl (by simp))
          exact ⟨⟨10, rfl, by decide, HP.out.1.fr hfr (by have := HNE.out.1; simp; omega) (by have := HNE.out.2; simp; omega), hset, HE.out, (HI.out.2.2.2.trans HP.out.2.2 (fun x hx => .inl (by simp at hx; simp [hx]))).trans hfr (fun x hx => .inl (by simp at hx; simp [hx]))⟩, by decide⟩
      · have HO := Lib.hid (show fl = thenF (numF F 11) (numsF F 0 12) from HI.out.2.2.1)
        clear hk
        go_wp2_with fail
        (with_reducible refine (HN.out _ 11 HI.out.1).mono ?_)
        rintro e w3 ⟨fv, rfl, hp⟩
        cases hq : numF F 11 with
        | some q =>
          rw [hq] at hp
          obtain ⟨b, rfl, hb, hn⟩ : ∃ b, fv = .pointer (some ⟨b, 0, none⟩) ∧ Blk w3 b #[.int .i64 q.1, .int .i64 q.2] 53 ∧ wi.heap.size ≤ b := hp.2.1
          have HP := Lib.hid (And.intro hb (And.intro hn hp.2.2))
          have HE := Lib.hid (show fl = some q by rw [HO.out, hq]; rfl)
          clear hp hb hn hq
          obtain rfl := HE.out
          go_wp2
          go_ret
          exact ⟨_, rfl, ⟨b, rfl, HP.out.1, Nat.le_trans HI.out.2.2.2.size HP.out.2.1⟩, HI.out.2.2.2.trans HP.out.2.2 (fun x hx => .inl (by simp at hx; simp [hx])), cfgAt F 10 cfg, by rw [cfgAt_len (by rw [HC.out.2]; decide), HC.out.2], HP.out.2.2.blk HI.out.2.1 (by have := HNE.out.1; simp; omega), fun h => by cases h⟩
        | none =>
          rw [hq] at hp
          obtain rfl : fv = .pointer none := hp.2.1
          have hlt := numF_none hq
          have hk2 : nextK F 11 = 12 := by unfold nextK; rw [if_pos hlt]
          have HE := Lib.hid (show fl = numsF F 0 12 by rw [HO.out, hq]; rfl)
          have hb3 := hp.2.2.blk HI.out.2.1 (by have := HNE.out.1; simp; omega)
          have hl := HC.out.2
          have d0 := hb3.at 10 (scrC_at (by rw [cfgAt_len (by rw [hl]; decide), hl]; decide))
          have g0 := hb3.free 10
          have hr3 := hp.1
          rw [hk2] at hr3
          have HP := Lib.hid (And.intro hr3 (And.intro hb3 hp.2.2))
          clear hp hq hlt hk2 hb3 hl hr3
          generalize (cfgAt F 10 cfg).getD 10 0 = y at d0
          go_wp2
          have hl := HC.out.2
          have hset := HP.out.2.1.set 10 (.int .i64 (numN F 11))
          rw [scrC_set _ (by rw [cfgAt_len (by rw [hl]; decide), hl]; decide), cfgAt_set (by rw [hl]; decide)] at hset
          have hfr : Fr [sc] w3 (w3.setCell ⟨sc, 10, none⟩ (.int .i64 (numN F 11))) := (Fr.refl _ _).setCell _ _ (.inl (by simp))
          exact ⟨⟨11, rfl, by decide, HP.out.1.fr hfr (by have := HNE.out.1; simp; omega) (by have := HNE.out.2; simp; omega), hset, HE.out, (HI.out.2.2.2.trans HP.out.2.2 (fun x hx => .inl (by simp at hx; simp [hx]))).trans hfr (fun x hx => .inl (by simp at hx; simp [hx]))⟩, by decide⟩
  · have e1 : (s.toList == (⟨#[99, 111, 110, 102, 105, 103]⟩ : ByteArray).toList) = false := beq_not hh
    have e2 : (s.toList == [99, 111, 110, 102, 105, 103]) = false := by rw [← e1]; rw [ByteArray.toList_eq (⟨#[99, 111, 110, 102, 105, 103]⟩ : ByteArray)]
    have HE := Lib.hid (show fl = some (0, 280) from by rw [HL.out]; unfold cfgF; rw [if_neg (by rw [← HS.out]; exact hh)])
    clear hh
    obtain rfl := HE.out
    go_enter Tryz.func13, Tryz.ntmps13
    go_wp2
    go_ret
    exact ⟨_, rfl, FaultV.new w 0 280 _ (Nat.le_refl _), ((Fr.refl [] w).alloc _).mono (by simp), cfg, HC.out.2, HC.out.1.alloc _⟩
end Sc
end Go.Proofs.YtbpgpjibljgiiaaGreatDoor
namespace Go.Proofs.YtbpgpjibljgiiaaGreatDoor
open Go.RowKit
set_option linter.unusedVariables false
set_option linter.unusedSimpArgs false
attribute [local go_sem] Oper.semAt_some
theorem put_ne {a : Act} {d t : Nat} (h : t ≠ d) (v : Value) : (a.put (some d) v).tmps[t]? = a.tmps[t]? := by
  unfold Act.put
  exact Array.getElem?_setIfInBounds_ne (Ne.symm h)
theorem put_eq {a : Act} {d : Nat} (h : d < a.tmps.size) (v : Value) : (a.put (some d) v).tmps[d]? = some v := by
  unfold Act.put
  simp [h]
section
variable {P : Program}
theorem wp_app {w : World} {o : Oper} {a : Act} {K : Act → World → Prop} {Q : Exit → Act → World → Prop} (hgd : o.guard = none) (s x : Operand) (t : TypeId)
    (hop : o.op = .call { callee := .builtin .append, args := #[s, x], argTypes := #[t, t] })
    (e : TypeId) (z : Value) (size bytes : Nat) (h1 : P.underlying t = some (.slice e)) (h2 : (P.info? e).map (fun i => (i.zero, i.size, i.bytes)) = some (some z, size, bytes)) (h6 : z.cells.size = size) (h7 : 0 < size)
    (v : Value) (k : Nat) (xs : List Value) (hs : a.eval s = v) (hown : w.ownsRow 0 e size v k xs) (ad : Addr) (m c : Nat) (news : List Value) (hx : a.eval x = .slice (some ad) m c) (hn : news.length = m * size)
    (hc : ∀ j u, news[j]? = some u → w.cell? (ad.add j) = some u) (h1c : ∀ u ∈ news, u.oneCell' = true) (b1 : k + m ≤ maxLen) (b2 : (k + m) * bytes ≤ 140737488355328)
    (hK : ∀ v' w', Appended w e size v (k + m) (xs ++ news) v' w' → K (a.put o.dst v') w') :
    Oper.wp P o a w K Q := by
  obtain ⟨i, hi, hz, hsz, hby⟩ := info_parts h2
  obtain ⟨v', w', hrun, r1, r2, -⟩ := run_append_own (P := P) w 0 t o.type e i z size bytes h1 hi hz hsz hby h6 h7 v k xs hown ad m c news hn hc h1c b1 b2 (Nat.zero_le _)
  have r4 := run_app_where w t o.type e i z size bytes h1 hi hz hsz hby v k xs hown ad m c news hn hc h1c b1 b2 v' w' hrun
  unfold Oper.wp execOp
  simp only [hop, resolve, invoke, builtin, Sem.run_bind, Sem.run_pure, Result.andThen_ok, List.map_toArray, List.map_cons, List.map_nil, hs, hx, hrun]
  exact hK v' w' ⟨r1, r2, r4⟩
end
/-- A region in which one list grows: ib makes what is put on, ia puts it on, the last one, s, stores the list into a field. -/
structure ApQ (w0 : World) (sc off : Nat) (v : Value) (n : Nat) (xs cs : List Value) (tb ta ib ia s : Nat) (p : Nat → Prop) (f : Nat → Option Value) (W : World) : Prop where
  a : ¬ p ia → Fr [] w0 W ∧ (p ib → ∃ bl, f tb = some (.slice (some ⟨bl, 0, none⟩) 1 1) ∧ Blk W bl cs.toArray 64)
  b : p ia → ¬ p s → ∃ v' W1, f ta = some v' ∧ Fr [] w0 W1 ∧ Appended W1 64 5 v (n + 1) (xs ++ cs) v' W
  c : p s → ∃ v' W1 W2, Fr [] w0 W1 ∧ Appended W1 64 5 v (n + 1) (xs ++ cs) v' W2 ∧ W = W2.setCell ⟨sc, off, none⟩ v'
theorem ApQ.start {w0 : World} {sc off : Nat} {v : Value} {n : Nat} {xs cs : List Value} {tb ta ib ia s : Nat} {f : Nat → Option Value} : ApQ w0 sc off v n xs cs tb ta ib ia s (fun _ => False) f w0.drew := ⟨fun _ => ⟨(Fr.refl _ _).drew, fun h => h.elim⟩, fun h => h.elim, fun h => h.elim⟩
theorem ApQ.keep {w0 W : World} {sc off : Nat} {v : Value} {n : Nat} {xs cs : List Value} {tb ta ib ia s i : Nat} {p : Nat → Prop} {f g : Nat → Option Value} (h : ApQ w0 sc off v n xs cs tb ta ib ia s p f W) (h1 : ib ≠ i) (h2 : ia ≠ i) (h3 : s ≠ i) (e1 : g tb = f tb) (e2 : g ta = f ta) : ApQ w0 sc off v n xs cs tb ta ib ia s (fun k => p k ∨ k = i) g W :=
  ⟨fun q => ⟨(h.a (fun z => q (.inl z))).1, fun q2 => by rw [e1]; exact (h.a (fun z => q (.inl z))).2 (q2.resolve_right h1)⟩, fun q1 q2 => by rw [e2]; exact h.b (q1.resolve_right h2) (fun z => q2 (.inl z)), fun q => h.c (q.resolve_right h3)⟩
namespace Sc
theorem infoSt : (Tryz.prog.info? 64).map (fun i => (i.zero, i.size, i.bytes)) = some (some zeroStep, 5, 56) := by kernel_rfl
/-- The cells of a list of steps. -/
def rowC (C : List (St × Value)) : List Value := C.flatMap fun p => p.1.cells p.2
structure StepsV (W : World) (n0 : Nat) (v : Value) (C : List (St × Value)) : Prop where
  own : W.ownsRow 0 64 5 v C.length (rowC C)
  blk : ∀ g, v.ownBlock = some g → n0 ≤ g
  byt : ∀ x ∈ C, BytV W n0 x.2 x.1.by'
theorem BytV.form {W : World} {n0 : Nat} {v : Value} {l : List Int} (h : BytV W n0 v l) : ∃ p c, v = .slice p l.length c := own_form h.1
theorem BytV.ne {W : World} {n0 b : Nat} {v : Value} {l : List Int} {c : Array Value} {e : TypeId} (h : BytV W n0 v l) (hb : Blk W b c e) (he : 5 ≠ e) : ∀ g, v.ownBlock = some g → g ≠ b := fun g hg q => own_ne h.1 hg hb he q.symm
theorem Appended.start {W W1 W2 : World} {v v' : Value} {n : Nat} {xs : List Value} (h : Appended W1 64 5 v n xs v' W2) (f : Fr [] W W1) : ∀ g, v'.ownBlock = some g → v.ownBlock = some g ∨ W.heap.size ≤ g := fun g hg => by
  rcases h.place with q | q
  · exact .inl (by rw [← q]; exact hg)
  · rw [q] at hg
    cases hg
    exact .inr f.size
set_option maxRecDepth 100000 in
set_option maxHeartbeats 8000000 in
theorem line_step (w : World) (r gF sc n n0 : Nat) (F : List ByteArray) (cfg : List Int) (v : Value) (C : List (St × Value)) (h : RowAt w r gF F 0) (hF : 0 < F.length) (hFs : ∀ s ∈ F, s.size ≤ 4294967296) (hs : Blk w sc (scrC cfg v) 26) (hc : cfg.length = 11) (hv : StepsV w n0 v C) (hC : C.length ≤ 4294967296) (hn : 3 ≤ n) (hn0 : n0 ≤ w.heap.size) :
    Calls Tryz.prog 13 #[.pointer (some ⟨r, 0, none⟩), .int .i64 n, .pointer (some ⟨sc, 0, none⟩)] w fun e w' => ∃ fv, e = .returned fv ∧ FaultV w' w.heap.size fv (stepF F) ∧ Fr (r :: sc :: v.ownBlock.toList) w w' ∧ (stepF F = none → ∃ v' bv, Blk w' sc (scrC cfg v') 26 ∧ StepsV w' n0 v' (C ++ [(stepS F, bv)])) := by
  have HT := Lib.hid (fun W (h : RowAt W r gF F 0) => step_any W r gF F h hF hFs)
  have HR := Lib.hid h
  have HC := Lib.hid (And.intro hs (And.intro hc (And.intro hv (And.intro hC hn0))))
  have z1 : ((n : Int) == 1) = false := by rw [beq_eq_false_iff_ne]; omega
  have z2 : ((n : Int) == 2) = false := by rw [beq_eq_false_iff_ne]; omega
  have z3 : (2 : Int) < (n : Int) := by omega
  obtain ⟨fl, hfl⟩ : ∃ fl, fl = stepF F := ⟨_, rfl⟩
  obtain ⟨st, hst⟩ : ∃ st, st = stepS F := ⟨_, rfl⟩
  have HTT := Lib.hid (show ∀ W (h : RowAt W r gF F 0), Calls Tryz.prog 36 #[.pointer (some ⟨r, 0, none⟩)] W fun e w' => StepQ W r gF F (stepK F) fl st.val st.by' e w' from by rw [hfl, hst]; exact HT.out)
  rw [← hfl, ← hst]
  clear h hF hs hc hv hC hfl hst HT hn hFs hn0
  go_enter Tryz.func13, Tryz.ntmps13
  go_wp2_with fail
  (with_reducible refine (HTT.out _ HR.out).mono ?_)
  rintro e w1 ⟨fv, bv, rfl, hp, hbv⟩
  have hsc1 := hp.2.2.blk HC.out.1 (by have := HR.out.hd.ne HC.out.1 (by decide); simp; omega)
  cases fl with
  | some q =>
    obtain ⟨b, rfl, hb, hn⟩ : ∃ b, fv = .pointer (some ⟨b, 0, none⟩) ∧ Blk w1 b #[.int .i64 q.1, .int .i64 q.2] 53 ∧ w.heap.size ≤ b := hp.2.1
    have HP := Lib.hid (And.intro hb (And.intro hn hp.2.2))
    rw [show (if (some q : Flt).isSome then zeroStep else st.val bv) = .agg #[.int .u8 0, .int .i64 0, .int .i64 0, .int .i64 0, .slice none 0 0] from rfl]
    have q4 : can5 (w1.alloc (.cells #[.int .u8 0, .int .i64 0, .int .i64 0, .int .i64 0, .slice none 0 0] 64)) w1.heap.size = true := (Blk.new w1 _ 64).can5
    have o1 : (Value.int .u8 0).oneCell' = true := rfl
    have o2 : (Value.int .i64 0).oneCell' = true := rfl
    have o3 : (Value.slice none 0 0).oneCell' = true := rfl
    clear hp hb hn hsc1 hbv
    go_wp2_with fail
    go_ret
    have hl : Fr [] w1 (layS (w1.alloc (.cells #[.int .u8 0, .int .i64 0, .int .i64 0, .int .i64 0, .slice none 0 0] 64)) w1.heap.size (.int .u8 0) (.int .i64 0) (.int .i64 0) (.int .i64 0) (.slice none 0 0)) := ((Fr.refl [] w1).alloc _).lay _ _ _ _ _ _ (.inr (Nat.le_refl _))
    exact ⟨_, rfl, ⟨b, rfl, hl.blk HP.out.1 (by simp), HP.out.2.1⟩, (HP.out.2.2.mono (by simp)).trans hl (by simp), fun h => by cases h⟩
  | none =>
    obtain rfl : fv = .pointer none := hp.2.1
    rw [show (if (none : Flt).isSome then zeroStep else st.val bv) = .agg #[.int .u8 st.kd, .int .i64 st.la, .int .i64 st.sl, .int .i64 st.pl, bv] from rfl]
    have hbv : BytV w1 w.heap.size bv st.by' := hbv
    obtain ⟨bp, bc, rfl⟩ := hbv.form
    obtain ⟨bv, hbe⟩ : ∃ bv, bv = Value.slice bp st.by'.length bc := ⟨_, rfl⟩
    have HBE := Lib.hid hbe
    rw [← hbe] at hbv ⊢
    obtain ⟨p, c, hve⟩ := own_form HC.out.2.2.1.own
    subst hve
    have q4 : can5 (w1.alloc (.cells #[.int .u8 0, .int .i64 0, .int .i64 0, .int .i64 0, .slice none 0 0] 64)) w1.heap.size = true := (Blk.new w1 _ 64).can5
    have o1 : (Value.int .u8 st.kd).oneCell' = true := rfl
    have o2 : ∀ z : Int, (Value.int .i64 z).oneCell' = true := fun _ => rfl
    have o3 : bv.oneCell' = true := by rw [hbe]; rfl
    have O3 := Lib.hid o3
    obtain ⟨w9, hw9⟩ : ∃ w9, layS (w1.alloc (.cells #[.int .u8 0, .int .i64 0, .int .i64 0, .int .i64 0, .slice none 0 0] 64)) w1.heap.size (.int .u8 st.kd) (.int .i64 st.la) (.int .i64 st.sl) (.int .i64 st.pl) bv = w9 := ⟨_, rfl⟩
    have f9 : Fr [] w1 w9 := by rw [← hw9]; exact ((Fr.refl [] w1).alloc _).lay _ _ _ _ _ _ (.inr (Nat.le_refl _))
    have hx : Blk w9 w1.heap.size #[.int .u8 st.kd, .int .i64 st.la, .int .i64 st.sl, .int .i64 st.pl, bv] 64 := by rw [← hw9]; exact (Blk.new w1 _ 64).lay _ _ _ _ _
    obtain ⟨xb, hxb⟩ : ∃ xb, xb = w1.heap.size := ⟨_, rfl⟩
    have hfr1 : Fr [r] w w1 := hp.2.2
    have hn1 : ∀ g, (Value.slice p C.length c).ownBlock = some g → g ∉ [r] := fun g hg => by have := own_ne HC.out.2.2.1.own hg HR.out.hd (by decide); simp; omega
    have hst1 : StepsV w9 n0 (.slice p C.length c) C := ⟨own_fr (own_fr HC.out.2.2.1.own hfr1 hn1) f9 (by simp), HC.out.2.2.1.blk, fun x hx => ((HC.out.2.2.1.byt x hx).fr' hfr1 (fun g hg => by have := (HC.out.2.2.1.byt x hx).ne HR.out.hd (by decide) g hg; simp; omega)).fr' f9 (by simp)⟩
    have H9 := Lib.hid (show Blk w9 xb _ 64 ∧ Blk w9 sc (scrC cfg (.slice p C.length c)) 26 ∧ cfg.length = 11 ∧ w9.ownsRow 0 64 5 (.slice p C.length c) C.length (rowC C) ∧ (∀ u ∈ st.cells bv, u.oneCell' = true) ∧ C.length ≤ 4294967296 from ⟨by rw [hxb]; exact hx, f9.blk hsc1 (by simp), HC.out.2.1, hst1.own, fun u hu => by
      simp only [St.cells, List.mem_cons, List.not_mem_nil, or_false] at hu
      rcases hu with rfl | rfl | rfl | rfl | rfl
      · rfl
      · rfl
      · rfl
      · rfl
      · exact O3.out, HC.out.2.2.2.1⟩)
    have HST := Lib.hid (And.intro hst1 (And.intro (hbv.fr' f9 (by simp)) (And.intro (hfr1.trans f9 (by simp)) HR.out)))
    have HW9 := Lib.hid hw9
    have HXB := Lib.hid hxb
    clear hp hbv hx f9 hw9 hfr1 hn1 hst1 hsc1 hbe hxb
    go_upto_region 29 with fail
    rw [HW9.out, ← HXB.out]
    clear q4 o1 o2 o3
    refine region_chg (by kernel_rfl) (by kernel_rfl) [some (.pointer (some ⟨sc, 0, none⟩)), some (.pointer (some ⟨sc, 0, none⟩)), some (.pointer (some ⟨sc, 0, none⟩)), some (.pointer (some ⟨sc, 11, none⟩)), some (.slice p C.length c), some (.agg #[.int .u8 st.kd, .int .i64 st.la, .int .i64 st.sl, .int .i64 st.pl, bv]), none, none, some (.pointer (some ⟨sc, 0, none⟩)), some (.pointer (some ⟨sc, 11, none⟩)), none] (ApQ w9 sc 11 (.slice p C.length c) C.length (rowC C) (st.cells bv) 110 111 6 7 10) 117 rfl (by kernel_rfl) [(0, 104), (1, 105), (2, 106), (3, 107), (4, 108), (5, 109), (6, 110), (7, 111), (8, 112), (9, 113)] (by kernel_rfl) (ApQ.start) ?_ ?_
    · intro q a1 W1 i hi hnq hd hG K hK
      have hlt : i < 11 := hi
      have hc : i = 0 ∨ i = 1 ∨ i = 2 ∨ i = 3 ∨ i = 4 ∨ i = 5 ∨ i = 6 ∨ i = 7 ∨ i = 8 ∨ i = 9 ∨ i = 10 := by omega
      have hΨ := hG.world
      rcases hc with rfl | rfl | rfl | rfl | rfl | rfl | rfl | rfl | rfl | rfl | rfl
      · have e2 := hG.old 2 (by kernel_rfl)
        refine op_doC rfl (wanted_none rfl) hK (fun K' hK' => ?_)
        unfold Oper.wp
        go_simp
        exact hK' _ _ (fun u hu => by cases hu; rfl) (hΨ.keep (by decide) (by decide) (by decide) (put_ne (by decide) _) (put_ne (by decide) _))
      · have e2 := hG.old 2 (by kernel_rfl)
        refine op_doC rfl (wanted_none rfl) hK (fun K' hK' => ?_)
        unfold Oper.wp
        go_simp
        exact hK' _ _ (fun u hu => by cases hu; rfl) (hΨ.keep (by decide) (by decide) (by decide) (put_ne (by decide) _) (put_ne (by decide) _))
      · have e105 := hG.val (v := .pointer (some ⟨sc, 0, none⟩)) 1 105 (hd _ rfl ⟨1, .data⟩ (by simp) rfl) rfl rfl
        refine op_doC rfl (wanted_none rfl) hK (fun K' hK' => ?_)
        unfold Oper.wp
        go_simp
        exact hK' _ _ (fun u hu => by cases hu; rfl) (hΨ.keep (by decide) (by decide) (by decide) (put_ne (by decide) _) (put_ne (by decide) _))
      · have e106 := hG.val (v := .pointer (some ⟨sc, 0, none⟩)) 2 106 (hd _ rfl ⟨2, .data⟩ (by simp) rfl) rfl rfl
        refine op_doC rfl (wanted_none rfl) hK (fun K' hK' => ?_)
        unfold Oper.wp
        go_simp
        exact hK' _ _ (fun u hu => by cases hu; rfl) (hΨ.keep (by decide) (by decide) (by decide) (put_ne (by decide) _) (put_ne (by decide) _))
      · have e107 := hG.val (v := .pointer (some ⟨sc, 11, none⟩)) 3 107 (hd _ rfl ⟨3, .data⟩ (by simp) rfl) rfl rfl
        have hf := (hΨ.a (fun h => hnq (hG.closed 7 h _ rfl ⟨4, .data⟩ (by simp) rfl))).1
        have c := (hf.blk H9.out.2.1 (by simp)).at 11 (scrC_last H9.out.2.2.1)
        refine op_doC rfl (wanted_none rfl) hK (fun K' hK' => ?_)
        unfold Oper.wp
        go_simp
        exact hK' _ _ (fun u hu => by cases hu; rfl) (hΨ.keep (by decide) (by decide) (by decide) (put_ne (by decide) _) (put_ne (by decide) _))
      · have e15 := hG.old 15 (by kernel_rfl)
        have hf := (hΨ.a (fun h => hnq (hG.closed 6 (hG.closed 7 h _ rfl ⟨6, .data⟩ (by simp) rfl) _ rfl ⟨5, .data⟩ (by simp) rfl))).1
        have q := (hf.blk H9.out.1 (by simp)).st
        refine op_doC rfl (wanted_none rfl) hK (fun K' hK' => ?_)
        unfold Oper.wp
        go_simp
        exact hK' _ _ (fun u hu => by cases hu; rfl) (hΨ.keep (by decide) (by decide) (by decide) (put_ne (by decide) _) (put_ne (by decide) _))
      · have e109 := hG.val (v := .agg #[.int .u8 st.kd, .int .i64 st.la, .int .i64 st.sl, .int .i64 st.pl, bv]) 5 109 (hd _ rfl ⟨5, .data⟩ (by simp) rfl) rfl rfl
        have hf := (hΨ.a (fun h => hnq (hG.closed 7 h _ rfl ⟨6, .data⟩ (by simp) rfl))).1
        refine op_doC rfl (wanted_none rfl) hK (fun K' hK' => ?_)
        unfold Oper.wp
        go_simp
        exact hK' _ _ (fun u hu => by cases hu) ⟨fun _ => ⟨hf.alloc _, fun _ => ⟨W1.heap.size, put_eq (by rw [hG.size]; exact Nat.lt_of_lt_of_eq (by decide : 110 < 117) rfl) _, Blk.new _ _ _⟩⟩, fun q => absurd (q.resolve_right (by decide)) (fun h => hnq (hG.closed 7 h _ rfl ⟨6, .data⟩ (by simp) rfl)), fun q => absurd ((q.resolve_right (by decide))) (fun h => hnq (hG.closed 7 (hG.closed 10 h _ rfl ⟨7, .data⟩ (by simp) rfl) _ rfl ⟨6, .data⟩ (by simp) rfl))⟩
      · have e108 := hG.val (v := .slice p C.length c) 4 108 (hd _ rfl ⟨4, .data⟩ (by simp) rfl) rfl rfl
        obtain ⟨hf, hb⟩ := hΨ.a hnq
        obtain ⟨bl, e110, hbl⟩ := hb (hd _ rfl ⟨6, .data⟩ (by simp) rfl)
        refine op_doC rfl (wanted_none rfl) hK (fun K' hK' => ?_)
        refine wp_app rfl _ _ 24 rfl 64 zeroStep 5 56 Tryz.underlying24 infoSt rfl (by decide) (.slice p C.length c) C.length (rowC C) (by simp [Act.eval, e108]) (own_fr H9.out.2.2.2.1 hf (by simp)) ⟨bl, 0, none⟩ 1 1 (st.cells bv) (by simp [Act.eval, e110]) rfl (fun j u hu => by rw [Addr.add_lit]; simpa using hbl.at j (v := u) (by simpa [St.cells] using hu)) (H9.out.2.2.2.2.1) (by have := H9.out.2.2.2.2.2; unfold maxLen; omega) (by have := H9.out.2.2.2.2.2; omega) ?_
        intro v2 W2 hap
        exact hK' _ _ (fun u hu => by cases hu) ⟨fun q => absurd (.inr rfl) q, fun _ _ => ⟨v2, W1, put_eq (by rw [hG.size]; exact Nat.lt_of_lt_of_eq (by decide : 111 < 117) rfl) _, hf, hap⟩, fun q => absurd (q.resolve_right (by decide)) (fun h => hnq (hG.closed 10 h _ rfl ⟨7, .data⟩ (by simp) rfl))⟩
      · have e104 := hG.val (v := .pointer (some ⟨sc, 0, none⟩)) 0 104 (hd _ rfl ⟨0, .data⟩ (by simp) rfl) rfl rfl
        refine op_doC rfl (wanted_none rfl) hK (fun K' hK' => ?_)
        unfold Oper.wp
        go_simp
        exact hK' _ _ (fun u hu => by cases hu; rfl) (hΨ.keep (by decide) (by decide) (by decide) (put_ne (by decide) _) (put_ne (by decide) _))
      · have e112 := hG.val (v := .pointer (some ⟨sc, 0, none⟩)) 8 112 (hd _ rfl ⟨8, .data⟩ (by simp) rfl) rfl rfl
        refine op_doC rfl (wanted_none rfl) hK (fun K' hK' => ?_)
        unfold Oper.wp
        go_simp
        exact hK' _ _ (fun u hu => by cases hu; rfl) (hΨ.keep (by decide) (by decide) (by decide) (put_ne (by decide) _) (put_ne (by decide) _))
      · have e113 := hG.val (v := .pointer (some ⟨sc, 11, none⟩)) 9 113 (hd _ rfl ⟨9, .data⟩ (by simp) rfl) rfl rfl
        obtain ⟨v2, W2, e111, hf, hap⟩ := hΨ.b (hd _ rfl ⟨7, .data⟩ (by simp) rfl) hnq
        obtain ⟨g2, c2', rfl⟩ := own_succ hap.own
        have hsc := hap.fr.blk (hf.blk H9.out.2.1 (by simp)) (by have := own_notin H9.out.2.2.2.1 H9.out.2.1 (by decide); exact this)
        have c := hsc.at 11 (scrC_last H9.out.2.2.1)
        have cfz := hsc.free 11
        refine op_doC rfl (wanted_none rfl) hK (fun K' hK' => ?_)
        unfold Oper.wp
        go_simp
        exact hK' undef _ (fun u hu => by cases hu) ⟨fun q => absurd (.inl (hd _ rfl ⟨7, .data⟩ (by simp) rfl)) q, fun _ q => absurd (.inr rfl) q, fun _ => ⟨_, W2, W1, hf, hap, rfl⟩⟩
    · intro vs q W1 hq hΨ hv
      have r0 : vs 0 = .pointer (some ⟨sc, 0, none⟩) := hv 0 104 _ (by decide) rfl rfl
      have r1 : vs 1 = .pointer (some ⟨sc, 0, none⟩) := hv 1 105 _ (by decide) rfl rfl
      have r2 : vs 2 = .pointer (some ⟨sc, 0, none⟩) := hv 2 106 _ (by decide) rfl rfl
      have r3 : vs 3 = .pointer (some ⟨sc, 11, none⟩) := hv 3 107 _ (by decide) rfl rfl
      have r4 : vs 4 = .slice p C.length c := hv 4 108 _ (by decide) rfl rfl
      have r5 : vs 5 = .agg #[.int .u8 st.kd, .int .i64 st.la, .int .i64 st.sl, .int .i64 st.pl, bv] := hv 5 109 _ (by decide) rfl rfl
      have r8 : vs 8 = .pointer (some ⟨sc, 0, none⟩) := hv 8 112 _ (by decide) rfl rfl
      have r9 : vs 9 = .pointer (some ⟨sc, 11, none⟩) := hv 9 113 _ (by decide) rfl rfl
      simp only [lay, List.foldl_cons, List.foldl_nil, r0, r1, r2, r3, r4, r5, r8, r9] at hΨ ⊢
      simp only [List.setIfInBounds_toArray, List.set_cons_zero, List.set_cons_succ] at hΨ ⊢
      clear hv r0 r1 r2 r3 r4 r5 r8 r9
      generalize vs 6 = x6 at *
      generalize vs 7 = x7 at *
      obtain ⟨v2, Wa, Wb, hf, hap, hW⟩ := hΨ.c (hq 10 (by decide))
      have HA := Lib.hid (And.intro hf (And.intro hap hW))
      clear hΨ hf hap hW hq
      go_wp2_with fail
      go_ret
      have h0 := HST.out
      have hsc := HA.out.2.1.fr.blk (HA.out.1.blk H9.out.2.1 (by simp)) (own_notin (own_fr H9.out.2.2.2.1 HA.out.1 (by simp)) (HA.out.1.blk H9.out.2.1 (by simp)) (by decide))
      have hl : Fr [sc] Wb W1 := by rw [HA.out.2.2]; exact (Fr.refl _ _).setCell _ _ (.inl (by simp))
      have hsc2 : Blk W1 sc (scrC cfg v2) 26 := by
        rw [HA.out.2.2]
        have := hsc.set 11 v2
        rwa [scrC_setL _ H9.out.2.2.1] at this
      have fA : Fr (Value.slice p C.length c).ownBlock.toList w9 Wb := (HA.out.1.mono (by simp)).trans HA.out.2.1.fr (fun x hx => .inl hx)
      refine ⟨_, rfl, rfl, ?_, v2, hsc2, bv, ?_, ?_, ?_⟩
      · exact ((h0.2.2.1.mono (by simp)).trans (fA.mono (T := r :: sc :: (Value.slice p C.length c).ownBlock.toList) (fun x hx => .inl (by simp [hx]))) (fun x hx => .inl hx)).trans (hl.mono (by simp)) (fun x hx => .inl hx)
      · have := own_fr HA.out.2.1.own hl (fun g hg => by have := own_ne HA.out.2.1.own hg hsc (by decide); simp; omega)
        rw [List.length_append, List.length_singleton]
        simpa [rowC] using this
      · intro g hg
        rcases Appended.start HA.out.2.1 HA.out.1 g hg with q | q
        · exact h0.1.blk g q
        · exact Nat.le_trans HC.out.2.2.2.2 (Nat.le_trans h0.2.2.1.size q)
      · intro x hx
        have hgo : ∀ {n1 : Nat} {y : Value} {l : List Int}, BytV w9 n1 y l → BytV W1 n1 y l := fun {n1 y l} hy =>
          (hy.fr' fA (fun g hg hm => by
            rcases h0.1.own.2 with ⟨q, _⟩ | ⟨g', cap, cur, q, _, hgg, _⟩
            · rw [q] at hm; simp [Value.ownBlock] at hm
            · rw [q] at hm
              simp [Value.ownBlock] at hm
              subst hm
              exact own_ne hy.1 hg (show Blk w9 g cur 64 from hgg) (by decide) rfl)).fr' hl (fun g hg => by
            have := (hy.fr' fA (fun g hg hm => by
              rcases h0.1.own.2 with ⟨q, _⟩ | ⟨g', cap, cur, q, _, hgg, _⟩
              · rw [q] at hm; simp [Value.ownBlock] at hm
              · rw [q] at hm
                simp [Value.ownBlock] at hm
                subst hm
                exact own_ne hy.1 hg (show Blk w9 g cur 64 from hgg) (by decide) rfl)).ne hsc (by decide) g hg
            simp; omega)
        simp only [List.mem_append, List.mem_singleton] at hx
        rcases hx with hx | rfl
        · exact hgo (h0.1.byt x hx)
        · exact (hgo h0.2.1).from HC.out.2.2.2.2
end Sc
end Go.Proofs.YtbpgpjibljgiiaaGreatDoor
