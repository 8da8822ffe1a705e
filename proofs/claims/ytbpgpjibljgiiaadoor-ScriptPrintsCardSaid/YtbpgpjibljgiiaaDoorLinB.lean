/-
  Script: a script's second line: eleven numbers. Printed by genLin.py.
-/
import Derived.Test.YtbpgpjibljgiiaaDoorLinA
import Derived.Stop.Asserts
namespace Go.Proofs.YtbpgpjibljgiiaaDoor
open Go.RowKit
set_option linter.unusedVariables false
set_option linter.unusedSimpArgs false
attribute [local go_sem] Oper.semAt_some
namespace Sc
/-- m numbers from field k on, and no more. -/
def numsF (F : List ByteArray) : Nat → Nat → Flt
  | 0, k => overF F k
  | m + 1, k => thenF (numF F k) (numsF F m (k + 1))
def cfgF (F : List ByteArray) : Flt := if fld F 0 = sizeB then numsF F 11 1 else some (0, 280)
def cfgAt (F : List ByteArray) (k : Nat) (cfg : List Int) : List Int := (List.range k).map (fun i => numN F (i + 1)) ++ cfg.drop k
theorem cfgAt_len {F : List ByteArray} {k : Nat} {cfg : List Int} (h : k ≤ cfg.length) : (cfgAt F k cfg).length = cfg.length := by simp [cfgAt]; omega
theorem cfgAt_set {F : List ByteArray} {k : Nat} {cfg : List Int} (h : k < cfg.length) : (cfgAt F k cfg).set k (numN F (k + 1)) = cfgAt F (k + 1) cfg := by
  unfold cfgAt
  rw [List.set_append_right _ _ (by simp), List.length_map, List.length_range, Nat.sub_self, List.drop_eq_getElem_cons h, List.set_cons_zero, List.range_succ, List.map_append, List.append_assoc]
  rfl
theorem numF_none {F : List ByteArray} {k : Nat} (h : numF F k = none) : k < F.length := by
  unfold numF at h
  split at h
  · assumption
  · cases h
/-- A script's cells: the config, the list of steps. -/
def scrC (cfg : List Int) (v : Value) : Array Value := (ints cfg ++ [v]).toArray
theorem scrC_set {cfg : List Int} {v : Value} {k : Nat} (x : Int) (h : k < cfg.length) : (scrC cfg v).setIfInBounds k (.int .i64 x) = scrC (cfg.set k x) v := by
  unfold scrC
  rw [List.setIfInBounds_toArray, List.set_append_left _ _ (by simpa [ints] using h)]
  simp [ints, List.map_set]
theorem scrC_at {cfg : List Int} {v : Value} {k : Nat} (h : k < cfg.length) : (scrC cfg v)[k]? = some (.int .i64 (cfg.getD k 0)) := by
  unfold scrC
  rw [List.getElem?_toArray, List.getElem?_append_left (by simpa [ints] using h)]
  simp [ints, List.getD_eq_getElem?_getD, h]
theorem scrC_last {cfg : List Int} {v : Value} (h : cfg.length = 11) : (scrC cfg v)[11]? = some v := by
  unfold scrC
  rw [List.getElem?_toArray, List.getElem?_append_right (by simp [ints]; omega)]
  simp [ints, h]
theorem scrC_setL {cfg : List Int} {v : Value} (x : Value) (h : cfg.length = 11) : (scrC cfg v).setIfInBounds 11 x = scrC cfg x := by
  unfold scrC
  rw [List.setIfInBounds_toArray, List.set_append_right _ _ (by simp [ints]; omega)]
  simp [ints, h]
theorem run_nums0 (sc : Nat) (w : World) : (Instr.index 100 (.agg #[.iface 104 (.pointer (some ⟨sc, 0, none⟩)), .iface 104 (.pointer (some ⟨sc, 1, none⟩)), .iface 104 (.pointer (some ⟨sc, 2, none⟩)), .iface 104 (.pointer (some ⟨sc, 3, none⟩)), .iface 104 (.pointer (some ⟨sc, 4, none⟩)), .iface 104 (.pointer (some ⟨sc, 5, none⟩)), .iface 104 (.pointer (some ⟨sc, 6, none⟩)), .iface 104 (.pointer (some ⟨sc, 7, none⟩)), .iface 104 (.pointer (some ⟨sc, 8, none⟩)), .iface 105 (.pointer (some ⟨sc, 9, none⟩)), .iface 104 (.pointer (some ⟨sc, 10, none⟩))]) (.int .i64 0)).run Tryd.prog w = .ok (.iface 104 (.pointer (some ⟨sc, 0, none⟩))) w := by kernel_rfl
theorem run_nums1 (sc : Nat) (w : World) : (Instr.index 100 (.agg #[.iface 104 (.pointer (some ⟨sc, 0, none⟩)), .iface 104 (.pointer (some ⟨sc, 1, none⟩)), .iface 104 (.pointer (some ⟨sc, 2, none⟩)), .iface 104 (.pointer (some ⟨sc, 3, none⟩)), .iface 104 (.pointer (some ⟨sc, 4, none⟩)), .iface 104 (.pointer (some ⟨sc, 5, none⟩)), .iface 104 (.pointer (some ⟨sc, 6, none⟩)), .iface 104 (.pointer (some ⟨sc, 7, none⟩)), .iface 104 (.pointer (some ⟨sc, 8, none⟩)), .iface 105 (.pointer (some ⟨sc, 9, none⟩)), .iface 104 (.pointer (some ⟨sc, 10, none⟩))]) (.int .i64 1)).run Tryd.prog w = .ok (.iface 104 (.pointer (some ⟨sc, 1, none⟩))) w := by kernel_rfl
theorem run_nums2 (sc : Nat) (w : World) : (Instr.index 100 (.agg #[.iface 104 (.pointer (some ⟨sc, 0, none⟩)), .iface 104 (.pointer (some ⟨sc, 1, none⟩)), .iface 104 (.pointer (some ⟨sc, 2, none⟩)), .iface 104 (.pointer (some ⟨sc, 3, none⟩)), .iface 104 (.pointer (some ⟨sc, 4, none⟩)), .iface 104 (.pointer (some ⟨sc, 5, none⟩)), .iface 104 (.pointer (some ⟨sc, 6, none⟩)), .iface 104 (.pointer (some ⟨sc, 7, none⟩)), .iface 104 (.pointer (some ⟨sc, 8, none⟩)), .iface 105 (.pointer (some ⟨sc, 9, none⟩)), .iface 104 (.pointer (some ⟨sc, 10, none⟩))]) (.int .i64 2)).run Tryd.prog w = .ok (.iface 104 (.pointer (some ⟨sc, 2, none⟩))) w := by kernel_rfl
theorem run_nums3 (sc : Nat) (w : World) : (Instr.index 100 (.agg #[.iface 104 (.pointer (some ⟨sc, 0, none⟩)), .iface 104 (.pointer (some ⟨sc, 1, none⟩)), .iface 104 (.pointer (some ⟨sc, 2, none⟩)), .iface 104 (.pointer (some ⟨sc, 3, none⟩)), .iface 104 (.pointer (some ⟨sc, 4, none⟩)), .iface 104 (.pointer (some ⟨sc, 5, none⟩)), .iface 104 (.pointer (some ⟨sc, 6, none⟩)), .iface 104 (.pointer (some ⟨sc, 7, none⟩)), .iface 104 (.pointer (some ⟨sc, 8, none⟩)), .iface 105 (.pointer (some ⟨sc, 9, none⟩)), .iface 104 (.pointer (some ⟨sc, 10, none⟩))]) (.int .i64 3)).run Tryd.prog w = .ok (.iface 104 (.pointer (some ⟨sc, 3, none⟩))) w := by kernel_rfl
theorem run_nums4 (sc : Nat) (w : World) : (Instr.index 100 (.agg #[.iface 104 (.pointer (some ⟨sc, 0, none⟩)), .iface 104 (.pointer (some ⟨sc, 1, none⟩)), .iface 104 (.pointer (some ⟨sc, 2, none⟩)), .iface 104 (.pointer (some ⟨sc, 3, none⟩)), .iface 104 (.pointer (some ⟨sc, 4, none⟩)), .iface 104 (.pointer (some ⟨sc, 5, none⟩)), .iface 104 (.pointer (some ⟨sc, 6, none⟩)), .iface 104 (.pointer (some ⟨sc, 7, none⟩)), .iface 104 (.pointer (some ⟨sc, 8, none⟩)), .iface 105 (.pointer (some ⟨sc, 9, none⟩)), .iface 104 (.pointer (some ⟨sc, 10, none⟩))]) (.int .i64 4)).run Tryd.prog w = .ok (.iface 104 (.pointer (some ⟨sc, 4, none⟩))) w := by kernel_rfl
theorem run_nums5 (sc : Nat) (w : World) : (Instr.index 100 (.agg #[.iface 104 (.pointer (some ⟨sc, 0, none⟩)), .iface 104 (.pointer (some ⟨sc, 1, none⟩)), .iface 104 (.pointer (some ⟨sc, 2, none⟩)), .iface 104 (.pointer (some ⟨sc, 3, none⟩)), .iface 104 (.pointer (some ⟨sc, 4, none⟩)), .iface 104 (.pointer (some ⟨sc, 5, none⟩)), .iface 104 (.pointer (some ⟨sc, 6, none⟩)), .iface 104 (.pointer (some ⟨sc, 7, none⟩)), .iface 104 (.pointer (some ⟨sc, 8, none⟩)), .iface 105 (.pointer (some ⟨sc, 9, none⟩)), .iface 104 (.pointer (some ⟨sc, 10, none⟩))]) (.int .i64 5)).run Tryd.prog w = .ok (.iface 104 (.pointer (some ⟨sc, 5, none⟩))) w := by kernel_rfl
theorem run_nums6 (sc : Nat) (w : World) : (Instr.index 100 (.agg #[.iface 104 (.pointer (some ⟨sc, 0, none⟩)), .iface 104 (.pointer (some ⟨sc, 1, none⟩)), .iface 104 (.pointer (some ⟨sc, 2, none⟩)), .iface 104 (.pointer (some ⟨sc, 3, none⟩)), .iface 104 (.pointer (some ⟨sc, 4, none⟩)), .iface 104 (.pointer (some ⟨sc, 5, none⟩)), .iface 104 (.pointer (some ⟨sc, 6, none⟩)), .iface 104 (.pointer (some ⟨sc, 7, none⟩)), .iface 104 (.pointer (some ⟨sc, 8, none⟩)), .iface 105 (.pointer (some ⟨sc, 9, none⟩)), .iface 104 (.pointer (some ⟨sc, 10, none⟩))]) (.int .i64 6)).run Tryd.prog w = .ok (.iface 104 (.pointer (some ⟨sc, 6, none⟩))) w := by kernel_rfl
theorem run_nums7 (sc : Nat) (w : World) : (Instr.index 100 (.agg #[.iface 104 (.pointer (some ⟨sc, 0, none⟩)), .iface 104 (.pointer (some ⟨sc, 1, none⟩)), .iface 104 (.pointer (some ⟨sc, 2, none⟩)), .iface 104 (.pointer (some ⟨sc, 3, none⟩)), .iface 104 (.pointer (some ⟨sc, 4, none⟩)), .iface 104 (.pointer (some ⟨sc, 5, none⟩)), .iface 104 (.pointer (some ⟨sc, 6, none⟩)), .iface 104 (.pointer (some ⟨sc, 7, none⟩)), .iface 104 (.pointer (some ⟨sc, 8, none⟩)), .iface 105 (.pointer (some ⟨sc, 9, none⟩)), .iface 104 (.pointer (some ⟨sc, 10, none⟩))]) (.int .i64 7)).run Tryd.prog w = .ok (.iface 104 (.pointer (some ⟨sc, 7, none⟩))) w := by kernel_rfl
theorem run_nums8 (sc : Nat) (w : World) : (Instr.index 100 (.agg #[.iface 104 (.pointer (some ⟨sc, 0, none⟩)), .iface 104 (.pointer (some ⟨sc, 1, none⟩)), .iface 104 (.pointer (some ⟨sc, 2, none⟩)), .iface 104 (.pointer (some ⟨sc, 3, none⟩)), .iface 104 (.pointer (some ⟨sc, 4, none⟩)), .iface 104 (.pointer (some ⟨sc, 5, none⟩)), .iface 104 (.pointer (some ⟨sc, 6, none⟩)), .iface 104 (.pointer (some ⟨sc, 7, none⟩)), .iface 104 (.pointer (some ⟨sc, 8, none⟩)), .iface 105 (.pointer (some ⟨sc, 9, none⟩)), .iface 104 (.pointer (some ⟨sc, 10, none⟩))]) (.int .i64 8)).run Tryd.prog w = .ok (.iface 104 (.pointer (some ⟨sc, 8, none⟩))) w := by kernel_rfl
theorem run_nums9 (sc : Nat) (w : World) : (Instr.index 100 (.agg #[.iface 104 (.pointer (some ⟨sc, 0, none⟩)), .iface 104 (.pointer (some ⟨sc, 1, none⟩)), .iface 104 (.pointer (some ⟨sc, 2, none⟩)), .iface 104 (.pointer (some ⟨sc, 3, none⟩)), .iface 104 (.pointer (some ⟨sc, 4, none⟩)), .iface 104 (.pointer (some ⟨sc, 5, none⟩)), .iface 104 (.pointer (some ⟨sc, 6, none⟩)), .iface 104 (.pointer (some ⟨sc, 7, none⟩)), .iface 104 (.pointer (some ⟨sc, 8, none⟩)), .iface 105 (.pointer (some ⟨sc, 9, none⟩)), .iface 104 (.pointer (some ⟨sc, 10, none⟩))]) (.int .i64 9)).run Tryd.prog w = .ok (.iface 105 (.pointer (some ⟨sc, 9, none⟩))) w := by kernel_rfl
theorem run_nums10 (sc : Nat) (w : World) : (Instr.index 100 (.agg #[.iface 104 (.pointer (some ⟨sc, 0, none⟩)), .iface 104 (.pointer (some ⟨sc, 1, none⟩)), .iface 104 (.pointer (some ⟨sc, 2, none⟩)), .iface 104 (.pointer (some ⟨sc, 3, none⟩)), .iface 104 (.pointer (some ⟨sc, 4, none⟩)), .iface 104 (.pointer (some ⟨sc, 5, none⟩)), .iface 104 (.pointer (some ⟨sc, 6, none⟩)), .iface 104 (.pointer (some ⟨sc, 7, none⟩)), .iface 104 (.pointer (some ⟨sc, 8, none⟩)), .iface 105 (.pointer (some ⟨sc, 9, none⟩)), .iface 104 (.pointer (some ⟨sc, 10, none⟩))]) (.int .i64 10)).run Tryd.prog w = .ok (.iface 104 (.pointer (some ⟨sc, 10, none⟩))) w := by kernel_rfl
theorem run_as1 (p : Option Addr) (w : World) : (Instr.typeAssert (.iface 104 (.pointer p)) 20 104 true).run Tryd.prog w = .ok (.tuple #[.pointer p, .bool true]) w := by kernel_rfl
theorem run_as2 (p : Option Addr) (w : World) : (Instr.typeAssert (.iface 105 (.pointer p)) 20 105 true).run Tryd.prog w = .ok (.tuple #[.pointer p, .bool true]) w := by kernel_rfl
theorem run_as3 (p : Option Addr) (w : World) : (Instr.typeAssert (.iface 105 (.pointer p)) 20 104 true).run Tryd.prog w = .ok (.tuple #[.pointer none, .bool false]) w := by kernel_rfl
attribute [local go_sem] run_as1 run_as2 run_as3 run_nums0 run_nums1 run_nums2 run_nums3 run_nums4 run_nums5 run_nums6 run_nums7 run_nums8 run_nums9 run_nums10
set_option maxRecDepth 100000 in
set_option maxHeartbeats 8000000 in
theorem line_two (w : World) (r gF sc : Nat) (F : List ByteArray) (cfg : List Int) (v : Value) (h : RowAt w r gF F 0) (hF : 0 < F.length) (hFs : ∀ s ∈ F, s.size ≤ 4294967296) (hs : Blk w sc (scrC cfg v) 29) (hc : cfg.length = 11) :
    Calls Tryd.prog 27 #[.pointer (some ⟨r, 0, none⟩), .int .i64 2, .pointer (some ⟨sc, 0, none⟩)] w fun e w' => ∃ fv, e = .returned fv ∧ FaultV w' w.heap.size fv (cfgF F) ∧ Fr [r, sc] w w' ∧ ∃ cfg' : List Int, cfg'.length = 11 ∧ Blk w' sc (scrC cfg' v) 29 ∧ (cfgF F = none → cfg' = (List.range 11).map (fun i => numN F (i + 1))) := by
  have HV := Lib.hid (fun W (h : RowAt W r gF F 12) => over_any W r gF 12 F h)
  have HN := Lib.hid (fun W k (h : RowAt W r gF F k) => number_any W r gF k F h hFs)
  have HU := Lib.hid (fun W => show Calls Tryd.prog 44 #[.pointer (some ⟨sc, 0, none⟩)] W fun e w' => e = .returned (.agg #[.iface 104 (.pointer (some ⟨sc, 0, none⟩)), .iface 104 (.pointer (some ⟨sc, 1, none⟩)), .iface 104 (.pointer (some ⟨sc, 2, none⟩)), .iface 104 (.pointer (some ⟨sc, 3, none⟩)), .iface 104 (.pointer (some ⟨sc, 4, none⟩)), .iface 104 (.pointer (some ⟨sc, 5, none⟩)), .iface 104 (.pointer (some ⟨sc, 6, none⟩)), .iface 104 (.pointer (some ⟨sc, 7, none⟩)), .iface 104 (.pointer (some ⟨sc, 8, none⟩)), .iface 105 (.pointer (some ⟨sc, 9, none⟩)), .iface 104 (.pointer (some ⟨sc, 10, none⟩))]) ∧ Fr [] W w' from numbers_any W sc)
  have HR := Lib.hid h
  have HC := Lib.hid (And.intro hs hc)
  have HFL := Lib.hid hF
  have HNE := Lib.hid (show r ≠ sc ∧ gF ≠ sc from ⟨h.hd.ne hs (by decide), h.fs.ne hs (by decide)⟩)
  have c0 := h.hd.at 0 (v := .slice (some ⟨gF, 0, none⟩) F.length F.length) rfl
  have cs : w.cell? ⟨gF, 0, none⟩ = some (.string (fld F 0)) := h.at (by unfold fld; rw [List.getD_eq_getElem?_getD, List.getElem?_eq_getElem hF, Option.getD_some])
  have c1 := h.hd.at 1 (v := .int .i64 0) rfl
  have g1 := h.hd.free 1
  have k0 : (0 : Int) < (F.length : Int) := by omega
  obtain ⟨N, hN⟩ : ∃ N, N = F.length := ⟨_, rfl⟩
  have HNN := Lib.hid hN
  rw [← hN] at c0 k0
  obtain ⟨s, hs'⟩ : ∃ s, s = fld F 0 := ⟨_, rfl⟩
  have HS := Lib.hid hs'
  rw [← hs'] at cs
  obtain ⟨fl, hfl⟩ : ∃ fl, fl = cfgF F := ⟨_, rfl⟩
  have HL := Lib.hid hfl
  rw [← hfl]
  clear h hF hN hs' hfl hs hc hFs
  by_cases hh : s = sizeB
  · have e1 : (s.toList == (⟨#[99, 111, 110, 102, 105, 103]⟩ : ByteArray).toList) = true := beq_is hh
    have e2 : (s.toList == [99, 111, 110, 102, 105, 103]) = true := by rw [hh]; kernel_rfl
    have HE := Lib.hid (show fl = numsF F 11 1 from by rw [HL.out]; unfold cfgF; rw [if_pos (by rw [← HS.out, hh])])
    obtain ⟨w1, hw1⟩ : ∃ w1, w.setCell ⟨r, 1, none⟩ (.int .i64 1) = w1 := ⟨_, rfl⟩
    have HW1 := Lib.hid hw1
    have H1 := Lib.hid (show RowAt w1 r gF F 1 ∧ Blk w1 sc (scrC cfg v) 29 ∧ Fr [r] w w1 from ⟨by rw [← hw1]; exact HR.out.set 1 HFL.out, by rw [← hw1]; exact HC.out.1.other _ _ (by have := HNE.out.1; simp; omega), by rw [← hw1]; exact (Fr.refl _ _).setCell _ _ (.inl (by simp))⟩)
    clear hh hw1
    go_enter Tryd.func27, Tryd.ntmps27
    go_upto_region 11 with fail
    rw [HW1.out]
    clear c0 cs c1 g1
    go_wp2_with fail
    (with_reducible refine (HU.out _).mono ?_)
    rintro e w2 ⟨rfl, f2⟩
    have H2 := Lib.hid (show RowAt w2 r gF F 1 ∧ Blk w2 sc (scrC cfg v) 29 ∧ Fr [r] w w2 from ⟨H1.out.1.fr f2 (by simp) (by simp), f2.blk H1.out.2.1 (by simp), H1.out.2.2.trans f2 (by simp)⟩)
    clear f2
    go_wp2_with fail
    go_loopw [67] (fun i wr => ∃ k : Nat, i = .int .i64 k ∧ k ≤ 11 ∧ RowAt wr r gF F (k + 1) ∧ Blk wr sc (scrC (cfgAt F k cfg) v) 29 ∧ fl = numsF F (11 - k) (k + 1) ∧ Fr [r, sc] w wr) (fun i _ => 11 - (match i with | .int _ q => q.toNat | _ => 0))
    case atStart => exact ⟨0, rfl, by omega, H2.out.1, by simpa [cfgAt] using H2.out.2.1, HE.out, H2.out.2.2.mono (by simp)⟩
    case round =>
      obtain ⟨k, rfl, hk, hr, hb, hf, hfr⟩ := hrel
      obtain ⟨wi, hwi⟩ : ∃ wi : World, wi = wr := ⟨_, rfl⟩
      rw [← hwi] at hr hb hfr ⊢
      clear hwi
      have HI := Lib.hid (And.intro hr (And.intro hb (And.intro hf hfr)))
      clear hr hb hf hfr
      have hcs : k = 0 ∨ k = 1 ∨ k = 2 ∨ k = 3 ∨ k = 4 ∨ k = 5 ∨ k = 6 ∨ k = 7 ∨ k = 8 ∨ k = 9 ∨ k = 10 ∨ k = 11 := by omega
      rcases hcs with rfl | rfl | rfl | rfl | rfl | rfl | rfl | rfl | rfl | rfl | rfl | rfl
      rotate_right
      · have HO := Lib.hid (show fl = overF F 12 from HI.out.2.2.1)
        clear hk
        go_wp2_with fail
        (with_reducible refine (HV.out _ HI.out.1).mono ?_)
        rintro e w3 ⟨fv, rfl, hp⟩
        rw [← HO.out] at hp
        go_wp2
        go_ret
        refine ⟨_, rfl, hp.2.1.from HI.out.2.2.2.size, HI.out.2.2.2.trans hp.2.2 (fun x hx => .inl (by simp at hx; simp [hx])), cfgAt F 11 cfg, by rw [cfgAt_len (by rw [HC.out.2]; exact Nat.le_refl _), HC.out.2], hp.2.2.blk HI.out.2.1 (by have := HNE.out.1; simp; omega), fun _ => ?_⟩
        unfold cfgAt
        rw [List.drop_eq_nil_of_le (by rw [HC.out.2]; exact Nat.le_refl _), List.append_nil]
      · have HO := Lib.hid (show fl = thenF (numF F 1) (numsF F 10 2) from HI.out.2.2.1)
        clear hk
        go_wp2_with fail
        (with_reducible refine (HN.out _ 1 HI.out.1).mono ?_)
        rintro e w3 ⟨fv, rfl, hp⟩
        cases hq : numF F 1 with
        | some q =>
          rw [hq] at hp
          obtain ⟨b, rfl, hb, hn⟩ : ∃ b, fv = .pointer (some ⟨b, 0, none⟩) ∧ Blk w3 b #[.int .i64 q.1, .int .i64 q.2] 66 ∧ wi.heap.size ≤ b := hp.2.1
          have HP := Lib.hid (And.intro hb (And.intro hn hp.2.2))
          have HE := Lib.hid (show fl = some q by rw [HO.out, hq]; rfl)
          clear hp hb hn hq
          obtain rfl := HE.out
          go_wp2
          go_ret
          exact ⟨_, rfl, ⟨b, rfl, HP.out.1, Nat.le_trans HI.out.2.2.2.size HP.out.2.1⟩, HI.out.2.2.2.trans HP.out.2.2 (fun x hx => .inl (by simp at hx; simp [hx])), cfgAt F 0 cfg, by rw [cfgAt_len (by rw [HC.out.2]; decide), HC.out.2], HP.out.2.2.blk HI.out.2.1 (by have := HNE.out.1; simp; omega), fun h => by cases h⟩
        | none =>
          rw [hq] at hp
          obtain rfl : fv = .pointer none := hp.2.1
          have hlt := numF_none hq
          have hk2 : nextK F 1 = 2 := by unfold nextK; rw [if_pos hlt]
          have HE := Lib.hid (show fl = numsF F 10 2 by rw [HO.out, hq]; rfl)
          have hb3 := hp.2.2.blk HI.out.2.1 (by have := HNE.out.1; simp; omega)
          have hl := HC.out.2
          have d0 := hb3.at 0 (scrC_at (by rw [cfgAt_len (by rw [hl]; decide), hl]; decide))
          have g0 := hb3.free 0
          have hr3 := hp.1
          rw [hk2] at hr3
          have HP := Lib.hid (And.intro hr3 (And.intro hb3 hp.2.2))
          clear hp hq hlt hk2 hb3 hl hr3
          generalize (cfgAt F 0 cfg).getD 0 0 = y at d0
          go_wp2
          have hl := HC.out.2
          have hset := HP.out.2.1.set 0 (.int .i64 (numN F 1))
          rw [scrC_set _ (by rw [cfgAt_len (by rw [hl]; decide), hl]; decide), cfgAt_set (by rw [hl]; decide)] at hset
          have hfr : Fr [sc] w3 (w3.setCell ⟨sc, 0, none⟩ (.int .i64 (numN F 1))) := (Fr.refl _ _).setCell _ _ (.inl (by simp))
          exact ⟨⟨1, rfl, by decide, HP.out.1.fr hfr (by have := HNE.out.1; simp; omega) (by have := HNE.out.2; simp; omega), hset, HE.out, (HI.out.2.2.2.trans HP.out.2.2 (fun x hx => .inl (by simp at hx; simp [hx]))).trans hfr (fun x hx => .inl (by simp at hx; simp [hx]))⟩, by decide⟩
      · have HO := Lib.hid (show fl = thenF (numF F 2) (numsF F 9 3) from HI.out.2.2.1)
        clear hk
        go_wp2_with fail
        (with_reducible refine (HN.out _ 2 HI.out.1).mono ?_)
        rintro e w3 ⟨fv, rfl, hp⟩
        cases hq : numF F 2 with
        | some q =>
          rw [hq] at hp
          obtain ⟨b, rfl, hb, hn⟩ : ∃ b, fv = .pointer (some ⟨b, 0, none⟩) ∧ Blk w3 b #[.int .i64 q.1, .int .i64 q.2] 66 ∧ wi.heap.size ≤ b := hp.2.1
          have HP := Lib.hid (And.intro hb (And.intro hn hp.2.2))
          have HE := Lib.hid (show fl = some q by rw [HO.out, hq]; rfl)
          clear hp hb hn hq
          obtain rfl := HE.out
          go_wp2
          go_ret
          exact ⟨_, rfl, ⟨b, rfl, HP.out.1, Nat.le_trans HI.out.2.2.2.size HP.out.2.1⟩, HI.out.2.2.2.trans HP.out.2.2 (fun x hx => .inl (by simp at hx; simp [hx])), cfgAt F 1 cfg, by rw [cfgAt_len (by rw [HC.out.2]; decide), HC.out.2], HP.out.2.2.blk HI.out.2.1 (by have := HNE.out.1; simp; omega), fun h => by cases h⟩
        | none =>
          rw [hq] at hp
          obtain rfl : fv = .pointer none := hp.2.1
          have hlt := numF_none hq
          have hk2 : nextK F 2 = 3 := by unfold nextK; rw [if_pos hlt]
          have HE := Lib.hid (show fl = numsF F 9 3 by rw [HO.out, hq]; rfl)
          have hb3 := hp.2.2.blk HI.out.2.1 (by have := HNE.out.1; simp; omega)
          have hl := HC.out.2
          have d0 := hb3.at 1 (scrC_at (by rw [cfgAt_len (by rw [hl]; decide), hl]; decide))
          have g0 := hb3.free 1
          have hr3 := hp.1
          rw [hk2] at hr3
          have HP := Lib.hid (And.intro hr3 (And.intro hb3 hp.2.2))
          clear hp hq hlt hk2 hb3 hl hr3
          generalize (cfgAt F 1 cfg).getD 1 0 = y at d0
          go_wp2
          have hl := HC.out.2
          have hset := HP.out.2.1.set 1 (.int .i64 (numN F 2))
          rw [scrC_set _ (by rw [cfgAt_len (by rw [hl]; decide), hl]; decide), cfgAt_set (by rw [hl]; decide)] at hset
          have hfr : Fr [sc] w3 (w3.setCell ⟨sc, 1, none⟩ (.int .i64 (numN F 2))) := (Fr.refl _ _).setCell _ _ (.inl (by simp))
          exact ⟨⟨2, rfl, by decide, HP.out.1.fr hfr (by have := HNE.out.1; simp; omega) (by have := HNE.out.2; simp; omega), hset, HE.out, (HI.out.2.2.2.trans HP.out.2.2 (fun x hx => .inl (by simp at hx; simp [hx]))).trans hfr (fun x hx => .inl (by simp at hx; simp [hx]))⟩, by decide⟩
      · have HO := Lib.hid (show fl = thenF (numF F 3) (numsF F 8 4) from HI.out.2.2.1)
        clear hk
        go_wp2_with fail
        (with_reducible refine (HN.out _ 3 HI.out.1).mono ?_)
        rintro e w3 ⟨fv, rfl, hp⟩
        cases hq : numF F 3 with
        | some q =>
          rw [hq] at hp
          obtain ⟨b, rfl, hb, hn⟩ : ∃ b, fv = .pointer (some ⟨b, 0, none⟩) ∧ Blk w3 b #[.int .i64 q.1, .int .i64 q.2] 66 ∧ wi.heap.size ≤ b := hp.2.1
          have HP := Lib.hid (And.intro hb (And.intro hn hp.2.2))
          have HE := Lib.hid (show fl = some q by rw [HO.out, hq]; rfl)
          clear hp hb hn hq
          obtain rfl := HE.out
          go_wp2
          go_ret
          exact ⟨_, rfl, ⟨b, rfl, HP.out.1, Nat.le_trans HI.out.2.2.2.size HP.out.2.1⟩, HI.out.2.2.2.trans HP.out.2.2 (fun x hx => .inl (by simp at hx; simp [hx])), cfgAt F 2 cfg, by rw [cfgAt_len (by rw [HC.out.2]; decide), HC.out.2], HP.out.2.2.blk HI.out.2.1 (by have := HNE.out.1; simp; omega), fun h => by cases h⟩
        | none =>
          rw [hq] at hp
          obtain rfl : fv = .pointer none := hp.2.1
          have hlt := numF_none hq
          have hk2 : nextK F 3 = 4 := by unfold nextK; rw [if_pos hlt]
          have HE := Lib.hid (show fl = numsF F 8 4 by rw [HO.out, hq]; rfl)
          have hb3 := hp.2.2.blk HI.out.2.1 (by have := HNE.out.1; simp; omega)
          have hl := HC.out.2
          have d0 := hb3.at 2 (scrC_at (by rw [cfgAt_len (by rw [hl]; decide), hl]; decide))
          have g0 := hb3.free 2
          have hr3 := hp.1
          rw [hk2] at hr3
          have HP := Lib.hid (And.intro hr3 (And.intro hb3 hp.2.2))
          clear hp hq hlt hk2 hb3 hl hr3
          generalize (cfgAt F 2 cfg).getD 2 0 = y at d0
          go_wp2
          have hl := HC.out.2
          have hset := HP.out.2.1.set 2 (.int .i64 (numN F 3))
          rw [scrC_set _ (by rw [cfgAt_len (by rw [hl]; decide), hl]; decide), cfgAt_set (by rw [hl]; decide)] at hset
          have hfr : Fr [sc] w3 (w3.setCell ⟨sc, 2, none⟩ (.int .i64 (numN F 3))) := (Fr.refl _ _).setCell _ _ (.inl (by simp))
          exact ⟨⟨3, rfl, by decide, HP.out.1.fr hfr (by have := HNE.out.1; simp; omega) (by have := HNE.out.2; simp; omega), hset, HE.out, (HI.out.2.2.2.trans HP.out.2.2 (fun x hx => .inl (by simp at hx; simp [hx]))).trans hfr (fun x hx => .inl (by simp at hx; simp [hx]))⟩, by decide⟩
      · have HO := Lib.hid (show fl = thenF (numF F 4) (numsF F 7 5) from HI.out.2.2.1)
        clear hk
        go_wp2_with fail
        (with_reducible refine (HN.out _ 4 HI.out.1).mono ?_)
        rintro e w3 ⟨fv, rfl, hp⟩
        cases hq : numF F 4 with
        | some q =>
          rw [hq] at hp
          obtain ⟨b, rfl, hb, hn⟩ : ∃ b, fv = .pointer (some ⟨b, 0, none⟩) ∧ Blk w3 b #[.int .i64 q.1, .int .i64 q.2] 66 ∧ wi.heap.size ≤ b := hp.2.1
          have HP := Lib.hid (And.intro hb (And.intro hn hp.2.2))
          have HE := Lib.hid (show fl = some q by rw [HO.out, hq]; rfl)
          clear hp hb hn hq
          obtain rfl := HE.out
          go_wp2
          go_ret
          exact ⟨_, rfl, ⟨b, rfl, HP.out.1, Nat.le_trans HI.out.2.2.2.size HP.out.2.1⟩, HI.out.2.2.2.trans HP.out.2.2 (fun x hx => .inl (by simp at hx; simp [hx])), cfgAt F 3 cfg, by rw [cfgAt_len (by rw [HC.out.2]; decide), HC.out.2], HP.out.2.2.blk HI.out.2.1 (by have := HNE.out.1; simp; omega), fun h => by cases h⟩
        | none =>
          rw [hq] at hp
          obtain rfl : fv = .pointer none := hp.2.1
          have hlt := numF_none hq
          have hk2 : nextK F 4 = 5 := by unfold nextK; rw [if_pos hlt]
          have HE := Lib.hid (show fl = numsF F 7 5 by rw [HO.out, hq]; rfl)
          have hb3 := hp.2.2.blk HI.out.2.1 (by have := HNE.out.1; simp; omega)
          have hl := HC.out.2
          have d0 := hb3.at 3 (scrC_at (by rw [cfgAt_len (by rw [hl]; decide), hl]; decide))
          have g0 := hb3.free 3
          have hr3 := hp.1
          rw [hk2] at hr3
          have HP := Lib.hid (And.intro hr3 (And.intro hb3 hp.2.2))
          clear hp hq hlt hk2 hb3 hl hr3
          generalize (cfgAt F 3 cfg).getD 3 0 = y at d0
          go_wp2
          have hl := HC.out.2
          have hset := HP.out.2.1.set 3 (.int .i64 (numN F 4))
          rw [scrC_set _ (by rw [cfgAt_len (by rw [hl]; decide), hl]; decide), cfgAt_set (by rw [hl]; decide)] at hset
          have hfr : Fr [sc] w3 (w3.setCell ⟨sc, 3, none⟩ (.int .i64 (numN F 4))) := (Fr.refl _ _).setCell _ _ (.inl (by simp))
          exact ⟨⟨4, rfl, by decide, HP.out.1.fr hfr (by have := HNE.out.1; simp; omega) (by have := HNE.out.2; simp; omega), hset, HE.out, (HI.out.2.2.2.trans HP.out.2.2 (fun x hx => .inl (by simp at hx; simp [hx]))).trans hfr (fun x hx => .inl (by simp at hx; simp [hx]))⟩, by decide⟩
      · have HO := Lib.hid (show fl = thenF (numF F 5) (numsF F 6 6) from HI.out.2.2.1)
        clear hk
        go_wp2_with fail
        (with_reducible refine (HN.out _ 5 HI.out.1).mono ?_)
        rintro e w3 ⟨fv, rfl, hp⟩
        cases hq : numF F 5 with
        | some q =>
          rw [hq] at hp
          obtain ⟨b, rfl, hb, hn⟩ : ∃ b, fv = .pointer (some ⟨b, 0, none⟩) ∧ Blk w3 b #[.int .i64 q.1, .int .i64 q.2] 66 ∧ wi.heap.size ≤ b := hp.2.1
          have HP := Lib.hid (And.intro hb (And.intro hn hp.2.2))
          have HE := Lib.hid (show fl = some q by rw [HO.out, hq]; rfl)
          clear hp hb hn hq
          obtain rfl := HE.out
          go_wp2
          go_ret
          exact ⟨_, rfl, ⟨b, rfl, HP.out.1, Nat.le_trans HI.out.2.2.2.size HP.out.2.1⟩, HI.out.2.2.2.trans HP.out.2.2 (fun x hx => .inl (by simp at hx; simp [hx])), cfgAt F 4 cfg, by rw [cfgAt_len (by rw [HC.out.2]; decide), HC.out.2], HP.out.2.2.blk HI.out.2.1 (by have := HNE.out.1; simp; omega), fun h => by cases h⟩
        | none =>
          rw [hq] at hp
          obtain rfl : fv = .pointer none := hp.2.1
          have hlt := numF_none hq
          have hk2 : nextK F 5 = 6 := by unfold nextK; rw [if_pos hlt]
          have HE := Lib.hid (show fl = numsF F 6 6 by rw [HO.out, hq]; rfl)
          have hb3 := hp.2.2.blk HI.out.2.1 (by have := HNE.out.1; simp; omega)
          have hl := HC.out.2
          have d0 := hb3.at 4 (scrC_at (by rw [cfgAt_len (by rw [hl]; decide), hl]; decide))
          have g0 := hb3.free 4
          have hr3 := hp.1
          rw [hk2] at hr3
          have HP := Lib.hid (And.intro hr3 (And.intro hb3 hp.2.2))
          clear hp hq hlt hk2 hb3 hl hr3
          generalize (cfgAt F 4 cfg).getD 4 0 = y at d0
          go_wp2
          have hl := HC.out.2
          have hset := HP.out.2.1.set 4 (.int .i64 (numN F 5))
          rw [scrC_set _ (by rw [cfgAt_len (by rw [hl]; decide), hl]; decide), cfgAt_set (by rw [hl]; decide)] at hset
          have hfr : Fr [sc] w3 (w3.setCell ⟨sc, 4, none⟩ (.int .i64 (numN F 5))) := (Fr.refl _ _).setCell _ _ (.inl (by simp))
          exact ⟨⟨5, rfl, by decide, HP.out.1.fr hfr (by have := HNE.out.1; simp; omega) (by have := HNE.out.2; simp; omega), hset, HE.out, (HI.out.2.2.2.trans HP.out.2.2 (fun x hx => .inl (by simp at hx; simp [hx]))).trans hfr (fun x hx => .inl (by simp at hx; simp [hx]))⟩, by decide⟩
      · have HO := Lib.hid (show fl = thenF (numF F 6) (numsF F 5 7) from HI.out.2.2.1)
        clear hk
        go_wp2_with fail
        (with_reducible refine (HN.out _ 6 HI.out.1).mono ?_)
        rintro e w3 ⟨fv, rfl, hp⟩
        cases hq : numF F 6 with
        | some q =>
          rw [hq] at hp
          obtain ⟨b, rfl, hb, hn⟩ : ∃ b, fv = .pointer (some ⟨b, 0, none⟩) ∧ Blk w3 b #[.int .i64 q.1, .int .i64 q.2] 66 ∧ wi.heap.size ≤ b := hp.2.1
          have HP := Lib.hid (And.intro hb (And.intro hn hp.2.2))
          have HE := Lib.hid (show fl = some q by rw [HO.out, hq]; rfl)
          clear hp hb hn hq
          obtain rfl := HE.out
          go_wp2
          go_ret
          exact ⟨_, rfl, ⟨b, rfl, HP.out.1, Nat.le_trans HI.out.2.2.2.size HP.out.2.1⟩, HI.out.2.2.2.trans HP.out.2.2 (fun x hx => .inl (by simp at hx; simp [hx])), cfgAt F 5 cfg, by rw [cfgAt_len (by rw [HC.out.2]; decide), HC.out.2], HP.out.2.2.blk HI.out.2.1 (by have := HNE.out.1; simp; omega), fun h => by cases h⟩
        | none =>
          rw [hq] at hp
          obtain rfl : fv = .pointer none := hp.2.1
          have hlt := numF_none hq
          have hk2 : nextK F 6 = 7 := by unfold nextK; rw [if_pos hlt]
          have HE := Lib.hid (show fl = numsF F 5 7 by rw [HO.out, hq]; rfl)
          have hb3 := hp.2.2.blk HI.out.2.1 (by have := HNE.out.1; simp; omega)
          have hl := HC.out.2
          have d0 := hb3.at 5 (scrC_at (by rw [cfgAt_len (by rw [hl]; decide), hl]; decide))
          have g0 := hb3.free 5
          have hr3 := hp.1
          rw [hk2] at hr3
          have HP := Lib.hid (And.intro hr3 (And.intro hb3 hp.2.2))
          clear hp hq hlt hk2 hb3 hl hr3
          generalize (cfgAt F 5 cfg).getD 5 0 = y at d0
          go_wp2
          have hl := HC.out.2
          have hset := HP.out.2.1.set 5 (.int .i64 (numN F 6))
          rw [scrC_set _ (by rw [cfgAt_len (by rw [hl]; decide), hl]; decide), cfgAt_set (by rw [hl]; decide)] at hset
          have hfr : Fr [sc] w3 (w3.setCell ⟨sc, 5, none⟩ (.int .i64 (numN F 6))) := (Fr.refl _ _).setCell _ _ (.inl (by simp))
          exact ⟨⟨6, rfl, by decide, HP.out.1.fr hfr (by have := HNE.out.1; simp; omega) (by have := HNE.out.2; simp; omega), hset, HE.out, (HI.out.2.2.2.trans HP.out.2.2 (fun x hx => .inl (by simp at hx; simp [hx]))).trans hfr (fun x hx => .inl (by simp at hx; simp [hx]))⟩, by decide⟩
      · have HO := Lib.hid (show fl = thenF (numF F 7) (numsF F 4 8) from HI.out.2.2.1)
        clear hk
        go_wp2_with fail
        (with_reducible refine (HN.out _ 7 HI.out.1).mono ?_)
        rintro e w3 ⟨fv, rfl, hp⟩
        cases hq : numF F 7 with
        | some q =>
          rw [hq] at hp
          obtain ⟨b, rfl, hb, hn⟩ : ∃ b, fv = .pointer (some ⟨b, 0, none⟩) ∧ Blk w3 b #[.int .i64 q.1, .int .i64 q.2] 66 ∧ wi.heap.size ≤ b := hp.2.1
          have HP := Lib.hid (And.intro hb (And.intro hn hp.2.2))
          have HE := Lib.hid (show fl = some q by rw [HO.out, hq]; rfl)
          clear hp hb hn hq
          obtain rfl := HE.out
          go_wp2
          go_ret
          exact ⟨_, rfl, ⟨b, rfl, HP.out.1, Nat.le_trans HI.out.2.2.2.size HP.out.2.1⟩, HI.out.2.2.2.trans HP.out.2.2 (fun x hx => .inl (by simp at hx; simp [hx])), cfgAt F 6 cfg, by rw [cfgAt_len (by rw [HC.out.2]; decide), HC.out.2], HP.out.2.2.blk HI.out.2.1 (by have := HNE.out.1; simp; omega), fun h => by cases h⟩
        | none =>
          rw [hq] at hp
          obtain rfl : fv = .pointer none := hp.2.1
          have hlt := numF_none hq
          have hk2 : nextK F 7 = 8 := by unfold nextK; rw [if_pos hlt]
          have HE := Lib.hid (show fl = numsF F 4 8 by rw [HO.out, hq]; rfl)
          have hb3 := hp.2.2.blk HI.out.2.1 (by have := HNE.out.1; simp; omega)
          have hl := HC.out.2
          have d0 := hb3.at 6 (scrC_at (by rw [cfgAt_len (by rw [hl]; decide), hl]; decide))
          have g0 := hb3.free 6
          have hr3 := hp.1
          rw [hk2] at hr3
          have HP := Lib.hid (And.intro hr3 (And.intro hb3 hp.2.2))
          clear hp hq hlt hk2 hb3 hl hr3
          generalize (cfgAt F 6 cfg).getD 6 0 = y at d0
          go_wp2
          have hl := HC.out.2
          have hset := HP.out.2.1.set 6 (.int .i64 (numN F 7))
          rw [scrC_set _ (by rw [cfgAt_len (by rw [hl]; decide), hl]; decide), cfgAt_set (by rw [hl]; decide)] at hset
          have hfr : Fr [sc] w3 (w3.setCell ⟨sc, 6, none⟩ (.int .i64 (numN F 7))) := (Fr.refl _ _).setCell _ _ (.inl (by simp))
          exact ⟨⟨7, rfl, by decide, HP.out.1.fr hfr (by have := HNE.out.1; simp; omega) (by have := HNE.out.2; simp; omega), hset, HE.out, (HI.out.2.2.2.trans HP.out.2.2 (fun x hx => .inl (by simp at hx; simp [hx]))).trans hfr (fun x hx => .inl (by simp at hx; simp [hx]))⟩, by decide⟩
      · have HO := Lib.hid (show fl = thenF (numF F 8) (numsF F 3 9) from HI.out.2.2.1)
        clear hk
        go_wp2_with fail
        (with_reducible refine (HN.out _ 8 HI.out.1).mono ?_)
        rintro e w3 ⟨fv, rfl, hp⟩
        cases hq : numF F 8 with
        | some q =>
          rw [hq] at hp
          obtain ⟨b, rfl, hb, hn⟩ : ∃ b, fv = .pointer (some ⟨b, 0, none⟩) ∧ Blk w3 b #[.int .i64 q.1, .int .i64 q.2] 66 ∧ wi.heap.size ≤ b := hp.2.1
          have HP := Lib.hid (And.intro hb (And.intro hn hp.2.2))
          have HE := Lib.hid (show fl = some q by rw [HO.out, hq]; rfl)
          clear hp hb hn hq
          obtain rfl := HE.out
          go_wp2
          go_ret
          exact ⟨_, rfl, ⟨b, rfl, HP.out.1, Nat.le_trans HI.out.2.2.2.size HP.out.2.1⟩, HI.out.2.2.2.trans HP.out.2.2 (fun x hx => .inl (by simp at hx; simp [hx])), cfgAt F 7 cfg, by rw [cfgAt_len (by rw [HC.out.2]; decide), HC.out.2], HP.out.2.2.blk HI.out.2.1 (by have := HNE.out.1; simp; omega), fun h => by cases h⟩
        | none =>
          rw [hq] at hp
          obtain rfl : fv = .pointer none := hp.2.1
          have hlt := numF_none hq
          have hk2 : nextK F 8 = 9 := by unfold nextK; rw [if_pos hlt]
          have HE := Lib.hid (show fl = numsF F 3 9 by rw [HO.out, hq]; rfl)
          have hb3 := hp.2.2.blk HI.out.2.1 (by have := HNE.out.1; simp; omega)
          have hl := HC.out.2
          have d0 := hb3.at 7 (scrC_at (by rw [cfgAt_len (by rw [hl]; decide), hl]; decide))
          have g0 := hb3.free 7
          have hr3 := hp.1
          rw [hk2] at hr3
          have HP := Lib.hid (And.intro hr3 (And.intro hb3 hp.2.2))
          clear hp hq hlt hk2 hb3 hl hr3
          generalize (cfgAt F 7 cfg).getD 7 0 = y at d0
          go_wp2
          have hl := HC.out.2
          have hset := HP.out.2.1.set 7 (.int .i64 (numN F 8))
          rw [scrC_set _ (by rw [cfgAt_len (by rw [hl]; decide), hl]; decide), cfgAt_set (by rw [hl]; decide)] at hset
          have hfr : Fr [sc] w3 (w3.setCell ⟨sc, 7, none⟩ (.int .i64 (numN F 8))) := (Fr.refl _ _).setCell _ _ (.inl (by simp))
          exact ⟨⟨8, rfl, by decide, HP.out.1.fr hfr (by have := HNE.out.1; simp; omega) (by have := HNE.out.2; simp; omega), hset, HE.out, (HI.out.2.2.2.trans HP.out.2.2 (fun x hx => .inl (by simp at hx; simp [hx]))).trans hfr (fun x hx => .inl (by simp at hx; simp [hx]))⟩, by decide⟩
      · have HO := Lib.hid (show fl = thenF (numF F 9) (numsF F 2 10) from HI.out.2.2.1)
        clear hk
        go_wp2_with fail
        (with_reducible refine (HN.out _ 9 HI.out.1).mono ?_)
        rintro e w3 ⟨fv, rfl, hp⟩
        cases hq : numF F 9 with
        | some q =>
          rw [hq] at hp
          obtain ⟨b, rfl, hb, hn⟩ : ∃ b, fv = .pointer (some ⟨b, 0, none⟩) ∧ Blk w3 b #[.int .i64 q.1, .int .i64 q.2] 66 ∧ wi.heap.size ≤ b := hp.2.1
          have HP := Lib.hid (And.intro hb (And.intro hn hp.2.2))
          have HE := Lib.hid (show fl = some q by rw [HO.out, hq]; rfl)
          clear hp hb hn hq
          obtain rfl := HE.out
          go_wp2
          go_ret
          exact ⟨_, rfl, ⟨b, rfl, HP.out.1, Nat.le_trans HI.out.2.2.2.size HP.out.2.1⟩, HI.out.2.2.2.trans HP.out.2.2 (fun x hx => .inl (by simp at hx; simp [hx])), cfgAt F 8 cfg, by rw [cfgAt_len (by rw [HC.out.2]; decide), HC.out.2], HP.out.2.2.blk HI.out.2.1 (by have := HNE.out.1; simp; omega), fun h => by cases h⟩
        | none =>
          rw [hq] at hp
          obtain rfl : fv = .pointer none := hp.2.1
          have hlt := numF_none hq
          have hk2 : nextK F 9 = 10 := by unfold nextK; rw [if_pos hlt]
          have HE := Lib.hid (show fl = numsF F 2 10 by rw [HO.out, hq]; rfl)
          have hb3 := hp.2.2.blk HI.out.2.1 (by have := HNE.out.1; simp; omega)
          have hl := HC.out.2
          have d0 := hb3.at 8 (scrC_at (by rw [cfgAt_len (by rw [hl]; decide), hl]; decide))
          have g0 := hb3.free 8
          have hr3 := hp.1
          rw [hk2] at hr3
          have HP := Lib.hid (And.intro hr3 (And.intro hb3 hp.2.2))
          clear hp hq hlt hk2 hb3 hl hr3
          generalize (cfgAt F 8 cfg).getD 8 0 = y at d0
          go_wp2
          have hl := HC.out.2
          have hset := HP.out.2.1.set 8 (.int .i64 (numN F 9))
          rw [scrC_set _ (by rw [cfgAt_len (by rw [hl]; decide), hl]; decide), cfgAt_set (by rw [hl]; decide)] at hset
          have hfr : Fr [sc] w3 (w3.setCell ⟨sc, 8, none⟩ (.int .i64 (numN F 9))) := (Fr.refl _ _).setCell _ _ (.inl (by simp))
          exact ⟨⟨9, rfl, by decide, HP.out.1.fr hfr (by have := HNE.out.1; simp; omega) (by have := HNE.out.2; simp; omega), hset, HE.out, (HI.out.2.2.2.trans HP.out.2.2 (fun x hx => .inl (by simp at hx; simp [hx]))).trans hfr (fun x hx => .inl (by simp at hx; simp [hx]))⟩, by decide⟩
      · have HO := Lib.hid (show fl = thenF (numF F 10) (numsF F 1 11) from HI.out.2.2.1)
        clear hk
        go_wp2_with fail
        (with_reducible refine (HN.out _ 10 HI.out.1).mono ?_)
        rintro e w3 ⟨fv, rfl, hp⟩
        cases hq : numF F 10 with
        | some q =>
          rw [hq] at hp
          obtain ⟨b, rfl, hb, hn⟩ : ∃ b, fv = .pointer (some ⟨b, 0, none⟩) ∧ Blk w3 b #[.int .i64 q.1, .int .i64 q.2] 66 ∧ wi.heap.size ≤ b := hp.2.1
          have HP := Lib.hid (And.intro hb (And.intro hn hp.2.2))
          have HE := Lib.hid (show fl = some q by rw [HO.out, hq]; rfl)
          clear hp hb hn hq
          obtain rfl := HE.out
          go_wp2
          go_ret
          exact ⟨_, rfl, ⟨b, rfl, HP.out.1, Nat.le_trans HI.out.2.2.2.size HP.out.2.1⟩, HI.out.2.2.2.trans HP.out.2.2 (fun x hx => .inl (by simp at hx; simp [hx])), cfgAt F 9 cfg, by rw [cfgAt_len (by rw [HC.out.2]; decide), HC.out.2], HP.out.2.2.blk HI.out.2.1 (by have := HNE.out.1; simp; omega), fun h => by cases h⟩
        | none =>
          rw [hq] at hp
          obtain rfl : fv = .pointer none := hp.2.1
          have hlt := numF_none hq
          have hk2 : nextK F 10 = 11 := by unfold nextK; rw [if_pos hlt]
          have HE := Lib.hid (show fl = numsF F 1 11 by rw [HO.out, hq]; rfl)
          have hb3 := hp.2.2.blk HI.out.2.1 (by have := HNE.out.1; simp; omega)
          have hl := HC.out.2
          have d0 := hb3.at 9 (scrC_at (by rw [cfgAt_len (by rw [hl]; decide), hl]; decide))
          have g0 := hb3.free 9
          have hr3 := hp.1
          rw [hk2] at hr3
          have HP := Lib.hid (And.intro hr3 (And.intro hb3 hp.2.2))
          clear hp hq hlt hk2 hb3 hl hr3
          generalize (cfgAt F 9 cfg).getD 9 0 = y at d0
          go_wp2
          have hl := HC.out.2
          have hset := HP.out.2.1.set 9 (.int .i64 (numN F 10))
          rw [scrC_set _ (by rw [cfgAt_len (by rw [hl]; decide), hl]; decide), cfgAt_set (by rw [hl]; decide)] at hset
          have hfr : Fr [sc] w3 (w3.setCell ⟨sc, 9, none⟩ (.int .i64 (numN F 10))) := (Fr.refl _ _).setCell _ _ (.inl (by simp))
          exact ⟨⟨10, rfl, by decide, HP.out.1.fr hfr (by have := HNE.out.1; simp; omega) (by have := HNE.out.2; simp; omega), hset, HE.out, (HI.out.2.2.2.trans HP.out.2.2 (fun x hx => .inl (by simp at hx; simp [hx]))).trans hfr (fun x hx => .inl (by simp at hx; simp [hx]))⟩, by decide⟩
      · have HO := Lib.hid (show fl = thenF (numF F 11) (numsF F 0 12) from HI.out.2.2.1)
        clear hk
        go_wp2_with fail
        (with_reducible refine (HN.out _ 11 HI.out.1).mono ?_)
        rintro e w3 ⟨fv, rfl, hp⟩
        cases hq : numF F 11 with
        | some q =>
          rw [hq] at hp
          obtain ⟨b, rfl, hb, hn⟩ : ∃ b, fv = .pointer (some ⟨b, 0, none⟩) ∧ Blk w3 b #[.int .i64 q.1, .int .i64 q.2] 66 ∧ wi.heap.size ≤ b := hp.2.1
          have HP := Lib.hid (And.intro hb (And.intro hn hp.2.2))
          have HE := Lib.hid (show fl = some q by rw [HO.out, hq]; rfl)
          clear hp hb hn hq
          obtain rfl := HE.out
          go_wp2
          go_ret
          exact ⟨_, rfl, ⟨b, rfl, HP.out.1, Nat.le_trans HI.out.2.2.2.size HP.out.2.1⟩, HI.out.2.2.2.trans HP.out.2.2 (fun x hx => .inl (by simp at hx; simp [hx])), cfgAt F 10 cfg, by rw [cfgAt_len (by rw [HC.out.2]; decide), HC.out.2], HP.out.2.2.blk HI.out.2.1 (by have := HNE.out.1; simp; omega), fun h => by cases h⟩
        | none =>
          rw [hq] at hp
          obtain rfl : fv = .pointer none := hp.2.1
          have hlt := numF_none hq
          have hk2 : nextK F 11 = 12 := by unfold nextK; rw [if_pos hlt]
          have HE := Lib.hid (show fl = numsF F 0 12 by rw [HO.out, hq]; rfl)
          have hb3 := hp.2.2.blk HI.out.2.1 (by have := HNE.out.1; simp; omega)
          have hl := HC.out.2
          have d0 := hb3.at 10 (scrC_at (by rw [cfgAt_len (by rw [hl]; decide), hl]; decide))
          have g0 := hb3.free 10
          have hr3 := hp.1
          rw [hk2] at hr3
          have HP := Lib.hid (And.intro hr3 (And.intro hb3 hp.2.2))
          clear hp hq hlt hk2 hb3 hl hr3
          generalize (cfgAt F 10 cfg).getD 10 0 = y at d0
          go_wp2
          have hl := HC.out.2
          have hset := HP.out.2.1.set 10 (.int .i64 (numN F 11))
          rw [scrC_set _ (by rw [cfgAt_len (by rw [hl]; decide), hl]; decide), cfgAt_set (by rw [hl]; decide)] at hset
          have hfr : Fr [sc] w3 (w3.setCell ⟨sc, 10, none⟩ (.int .i64 (numN F 11))) := (Fr.refl _ _).setCell _ _ (.inl (by simp))
          exact ⟨⟨11, rfl, by decide, HP.out.1.fr hfr (by have := HNE.out.1; simp; omega) (by have := HNE.out.2; simp; omega), hset, HE.out, (HI.out.2.2.2.trans HP.out.2.2 (fun x hx => .inl (by simp at hx; simp [hx]))).trans hfr (fun x hx => .inl (by simp at hx; simp [hx]))⟩, by decide⟩
  · have e1 : (s.toList == (⟨#[99, 111, 110, 102, 105, 103]⟩ : ByteArray).toList) = false := beq_not hh
    have e2 : (s.toList == [99, 111, 110, 102, 105, 103]) = false := by rw [← e1]; rw [ByteArray.toList_eq (⟨#[99, 111, 110, 102, 105, 103]⟩ : ByteArray)]
    have HE := Lib.hid (show fl = some (0, 280) from by rw [HL.out]; unfold cfgF; rw [if_neg (by rw [← HS.out]; exact hh)])
    clear hh
    obtain rfl := HE.out
    go_enter Tryd.func27, Tryd.ntmps27
    go_wp2
    go_ret
    exact ⟨_, rfl, FaultV.new w 0 280 _ (Nat.le_refl _), ((Fr.refl [] w).alloc _).mono (by simp), cfg, HC.out.2, HC.out.1.alloc _⟩
end Sc
end Go.Proofs.YtbpgpjibljgiiaaDoor
