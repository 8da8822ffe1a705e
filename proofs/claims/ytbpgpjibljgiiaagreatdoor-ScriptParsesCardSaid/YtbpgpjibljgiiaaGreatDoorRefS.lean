/-
  Script, the document: a step's line. Printed by genRs.py.
-/
import Derived.Test.YtbpgpjibljgiiaaGreatDoorRmM
namespace Go.Proofs.YtbpgpjibljgiiaaGreatDoor
open Go.RowKit
set_option linter.unusedVariables false
set_option linter.unusedSimpArgs false
attribute [local go_sem] Oper.semAt_some
theorem results_st3 {fn : Func} {p u1 u2 : Tmp} (h : fn.results = #[.cell p 64, .tmp u1, .tmp u2]) (tmps : Array Value) (w : World) (g : Nat) (v x y : Value) (hp : tmps.getD p undef = .pointer (some ⟨g, 0, none⟩)) (hu : tmps.getD u1 undef = x) (hu2 : tmps.getD u2 undef = y) (hv : st? w g = some v) :
    (results fn tmps).run Tryz.prog w = .ok (.tuple #[v, x, y]) w := by
  have hp' : tmps[p]?.getD undef = .pointer (some ⟨g, 0, none⟩) := by simpa using hp
  have hu' : tmps[u1]?.getD undef = x := by simpa using hu
  have hu2' : tmps[u2]?.getD undef = y := by simpa using hu2
  simp [results, h, hp', hu', hu2', asAddr, loadVar_st w g v hv, Result.andThen]
namespace Sc
/-- What the document's step answers. -/
def RStepQ (w : World) (F : List ByteArray) (e : Ending) (w' : World) : Prop :=
  ∃ bv, e = .returned (.tuple #[if (stepF F).isSome then zeroStep else (stepS F).val bv, .int .i64 (fltN (stepF F)), .int .i64 (fltC (stepF F))]) ∧ BytV w' w.heap.size bv (if (stepF F).isSome then [] else (stepS F).by') ∧ Fr [] w w'
theorem RStepQ.bad {w w' : World} {F : List ByteArray} {q : Nat × Int} (h : stepF F = some q) (hf : Fr [] w w') : RStepQ w F (.returned (.tuple #[zeroStep, .int .i64 q.1, .int .i64 q.2])) w' := by
  refine ⟨.slice none 0 0, ?_, ?_, hf⟩
  · rw [h]; rfl
  · rw [h]; exact BytV.nil _ _
theorem RStepQ.bad' {w w' : World} {F : List ByteArray} {a : Nat} {x c : Int} (h : stepF F = some (a, c)) (hx : x = (a : Int)) (hf : Fr [] w w') : RStepQ w F (.returned (.tuple #[zeroStep, .int .i64 x, .int .i64 c])) w' := by
  subst hx
  exact RStepQ.bad h hf
theorem RStepQ.good {w w' : World} {F : List ByteArray} {v bv : Value} (h : stepF F = none) (hv : v = (stepS F).val bv) (hb : BytV w' w.heap.size bv (stepS F).by') (hf : Fr [] w w') : RStepQ w F (.returned (.tuple #[v, .int .i64 0, .int .i64 0])) w' := by
  refine ⟨bv, ?_, ?_, hf⟩
  · rw [h, hv]; rfl
  · rw [h]; exact hb
theorem wrd_short (j : Nat) : (wrdB j).2.size ≤ 4294967296 := by
  unfold wrdB
  split <;> decide
set_option maxRecDepth 100000 in
set_option maxHeartbeats 16000000 in
theorem refstep_any (w : World) (g0 c : Nat) (F : List ByteArray) (hF : ∀ i s, F[i]? = some s → w.cell? ⟨g0, i, none⟩ = some (.string s)) (hFs : ∀ s ∈ F, s.size ≤ 4294967296) (hl : F.length ≤ 4294967296) (hcap : F.length ≤ c) (hF0 : 0 < F.length) (hbl : (32 : UInt8) ∉ (fld F 0).data.toList) :
    Calls Tryz.prog 18 #[.slice (some ⟨g0, 0, none⟩) F.length c] w fun e w' => RStepQ w F e w' := by
  have HCL := Lib.hid (And.intro hF (And.intro hFs (And.intro hl hcap)))
  have HBK := Lib.hid hbl
  obtain ⟨N, hN⟩ : ∃ N, N = F.length := ⟨_, rfl⟩
  have HNN := Lib.hid hN
  have k0 : (0 : Int) < (N : Int) := by omega
  have kN : (N : Int) ≤ 4294967296 := by omega
  have c0 : w.cell? ⟨g0, 0, none⟩ = some (.string (fld F 0)) := hF 0 _ (by unfold fld; rw [List.getD_eq_getElem?_getD, List.getElem?_eq_getElem hF0, Option.getD_some])
  obtain ⟨s0, hs0⟩ : ∃ s0, s0 = fld F 0 := ⟨_, rfl⟩
  rw [← hs0] at c0
  have HS0 := Lib.hid hs0
  obtain ⟨rb, hrb⟩ : ∃ rb, rb = w.heap.size := ⟨_, rfl⟩
  obtain ⟨w0, hw0⟩ : ∃ w0, w.alloc (.cells #[.int .u8 0, .int .i64 0, .int .i64 0, .int .i64 0, .slice none 0 0] 64) = w0 := ⟨_, rfl⟩
  have HRB := Lib.hid (show w.heap.size ≤ rb by rw [hrb]; exact Nat.le_refl _)
  have HRE := Lib.hid hrb
  have hf0 : Fr [] w w0 := by rw [← hw0]; exact (Fr.refl [] w).alloc _
  have H0 := Lib.hid (show Blk w0 rb #[.int .u8 0, .int .i64 0, .int .i64 0, .int .i64 0, .slice none 0 0] 64 ∧ Fr [] w w0 from ⟨by rw [← hw0]; exact Blk.new_at hrb _ _, hf0⟩)
  have HW0 := Lib.hid hw0
  have b0 : w0.cell? ⟨g0, 0, none⟩ = some (.string s0) := (hf0.cell (World.block_lt_of_cell? w _ c0) (by simp)).trans c0
  rw [← hN]
  clear hF hFs hl hcap hbl hN hs0 hrb hw0 hf0 c0
  go_enter Tryz.func18, Tryz.ntmps18
  go_upto_region 1 with fail
  rw [HW0.out, ← HRE.out]
  by_cases htw : s0 = loseB ∨ s0 = twiceB
  · have HTW := Lib.hid (show fld F 0 = loseB ∨ fld F 0 = twiceB by rw [← HS0.out]; exact htw)
    go_upto_region 3 with fail
    go_cut [27] from 22 (fun s27 wx => s27 = .bool true ∧ wx = w0)
    case first =>
      rcases htw with q | q
      · have e1 : (s0.toList == [108, 111, 115, 101]) = true := by rw [q]; kernel_rfl
        clear q
        go_wp2_with fail
        go_meet
        case rel => exact ⟨rfl, rfl⟩
      · have e1 : (s0.toList == [108, 111, 115, 101]) = false := by rw [q]; kernel_rfl
        have e2 : (s0.toList == [116, 119, 105, 99, 101]) = true := by rw [q]; kernel_rfl
        clear q
        go_wp2_with fail
        go_meet
        case rel => exact ⟨rfl, rfl⟩
    case rest =>
      obtain ⟨rfl, hwc⟩ := hcut
      obtain ⟨wc0, hwc0⟩ : ∃ x : World, x = wc := ⟨_, rfl⟩
      rw [← hwc0] at hwc ⊢
      clear hwc0
      rw [hwc]
      clear hwc
      by_cases hl1 : 1 < F.length
      · have k1 : (2 : Int) ≤ (N : Int) := by rw [HNN.out]; omega
        have k11 : (1 : Int) < (N : Int) := by omega
        obtain ⟨s1, hs1⟩ : ∃ s1, s1 = fld F 1 := ⟨_, rfl⟩
        have hh1 : F[1]? = some (fld F 1) := by unfold fld; rw [List.getD_eq_getElem?_getD, List.getElem?_eq_getElem hl1, Option.getD_some]
        have b1 := (H0.out.2.cell (a := ⟨g0, 1, none⟩) (World.block_lt_of_cell? w _ (HCL.out.1 1 _ hh1)) (by simp)).trans (HCL.out.1 1 _ hh1)
        rw [← hs1] at b1
        have HS1 := Lib.hid hs1
        clear hs1 hh1
        by_cases hdn : s1 = downB ∨ s1 = upB
        · have HDN := Lib.hid (show fld F 1 = downB ∨ fld F 1 = upB by rw [← HS1.out]; exact hdn)
          have hsz0 : s0.size ≤ 5 := by rcases htw with q | q <;> rw [q] <;> decide
          have hsz1 : s1.size ≤ 4 := by rcases hdn with q | q <;> rw [q] <;> decide
          have hc1 : s0.size + 1 ≤ 9223372036854775807 := by omega
          have hc2 : s0.size + 1 + s1.size ≤ 9223372036854775807 := by omega
          go_upto_region 6 with fail
          go_cut [41] from 22 (fun s41 wx => s41 = .bool false ∧ wx = w0)
          case first =>
            rcases hdn with q | q
            · have e1 : (s1.toList != [100, 111, 119, 110]) = false := by rw [q]; kernel_rfl
              have e3 : (s1.toList == [100, 111, 119, 110]) = true := by rw [q]; kernel_rfl
              have e4 : s1.toList = [100, 111, 119, 110] := by rw [q]; kernel_rfl
              clear q
              go_wp2_with fail
              go_meet
              case rel => exact ⟨rfl, rfl⟩
            · have e1 : (s1.toList != [100, 111, 119, 110]) = true := by rw [q]; kernel_rfl
              have e2 : (s1.toList != [117, 112]) = false := by rw [q]; kernel_rfl
              have e3 : (s1.toList == [100, 111, 119, 110]) = false := by rw [q]; kernel_rfl
              have e5 : (s1.toList == [117, 112]) = true := by rw [q]; kernel_rfl
              clear q
              go_wp2_with fail
              go_meet
              case rel => exact ⟨rfl, rfl⟩
          case rest =>
            obtain ⟨rfl, hwc⟩ := hcut
            obtain ⟨wc0, hwc0⟩ : ∃ x : World, x = wc := ⟨_, rfl⟩
            rw [← hwc0] at hwc ⊢
            clear hwc0
            rw [hwc]
            clear hwc
            go_upto_region 10 with fail
            obtain ⟨sw, hsw⟩ : ∃ sw, s0 ++ (⟨#[32]⟩ : ByteArray) ++ s1 = sw := ⟨_, rfl⟩
            rw [hsw]
            have HSW := Lib.hid (show sw = fld F 0 ++ (⟨#[32]⟩ : ByteArray) ++ fld F 1 by rw [← hsw, HS0.out, HS1.out])
            have HFOUND := Lib.hid (fun j (h1 : 1 ≤ j) (h2 : j ≤ 10) (h3 : (wrdB j).1 = sw) => ref_two (F := F) HTW.out hl1 HDN.out ⟨h1, h2⟩ (h3.trans HSW.out))
            have HNONE := Lib.hid (fun (h : ∀ i, 1 ≤ i → i < 11 → (wrdB i).1 ≠ sw) => show stepF F = some (0, 280) from by
              obtain ⟨j, q1, q2, q3⟩ := ref_two_has HTW.out HDN.out
              exact absurd (q3.trans HSW.out.symm) (h j q1 q2))
            clear hsw htw hdn hsz0 hsz1 hc1 hc2 hl1 k1 b0 b1
            go_wp2_with fail
            go_loopw [7] (fun kv wr => ∃ j : Nat, kv = .int .u8 j ∧ 1 ≤ j ∧ j ≤ 11 ∧ (∀ i, 1 ≤ i → i < j → (wrdB i).1 ≠ sw) ∧ Blk wr rb #[.int .u8 0, .int .i64 0, .int .i64 0, .int .i64 0, .slice none 0 0] 64 ∧ Fr [] w wr) (fun kv _ => 11 - (match kv with | .int _ q => q.toNat | _ => 0))
            case atStart => exact ⟨1, rfl, Nat.le_refl _, by omega, fun i h1 h2 => by omega, H0.out.1, H0.out.2⟩
            case round =>
              obtain ⟨j, rfl, hj1, hj2, hno, hrb, hf⟩ := hrel
              obtain ⟨wi, hwi⟩ : ∃ wi : World, wi = wr := ⟨_, rfl⟩
              rw [← hwi] at hrb hf ⊢
              clear hwi
              have HI := Lib.hid (And.intro hno (And.intro hrb hf))
              have kj1 : (j : Int) ≤ 11 := by omega
              have kj0 : (1 : Int) ≤ (j : Int) := by omega
              have HJ := Lib.hid hj1
              clear hno hrb hf hj1
              by_cases hle : j ≤ 10
              · have d1 : (j : Int) ≤ 10 := by omega
                have HJ2 := Lib.hid hle
                clear hj2 hle
                go_wp2_with fail
                (with_reducible refine (word_any _ j).mono ?_)
                rintro e wz ⟨rfl, hwz⟩
                rw [hwz]
                clear hwz
                obtain ⟨X, hX⟩ : ∃ X, X = (wrdB j).1 := ⟨_, rfl⟩
                obtain ⟨L, hL⟩ : ∃ L, L = (wrdB j).2 := ⟨_, rfl⟩
                rw [← hX, ← hL]
                have HX := Lib.hid hX
                have HL := Lib.hid hL
                clear hX hL
                by_cases heq : X = sw
                · have e1 : (X.toList == (sw).toList) = true := beq_is heq
                  have e1b : (X.toList != (sw).toList) = false := by rw [bne, e1]; rfl
                  obtain ⟨hrf, hrs⟩ := HFOUND.out j HJ.out HJ2.out (by rw [← HX.out]; exact heq)
                  rw [← HL.out] at hrf
                  have HRF := Lib.hid hrf
                  have HRS0 := Lib.hid hrs
                  have HWR := Lib.hid (wrong_fields wi g0 c 2 F L (fun i s hs => (HI.out.2.2.cell (World.block_lt_of_cell? w _ (HCL.out.1 i s hs)) (by simp)).trans (HCL.out.1 i s hs)) HCL.out.2.1 (by decide) (by rw [HL.out]; exact wrd_short j) HCL.out.2.2.1 HCL.out.2.2.2)
                  rw [← HNN.out] at HWR
                  replace HWR := Lib.hid (show Calls Tryz.prog 16 #[.slice (some ⟨g0, 0, none⟩) N c, .int .i64 2, .string L] wi _ from HWR.out)
                  clear heq hrf hrs
                  obtain ⟨G, hG⟩ : ∃ G, G = wrongG F 2 L.data.toList := ⟨_, rfl⟩
                  rw [← hG] at HWR
                  have HG := Lib.hid hG
                  clear hG
                  go_wp2_with fail
                  (with_reducible refine HWR.out.mono ?_)
                  rintro e w2 ⟨rfl, f2⟩
                  have HF2 := Lib.hid f2
                  clear f2
                  cases hG2 : G with
                  | some q =>
                    have hc := wrong_code (HG.out.symm.trans hG2)
                    have z1 : (q.2 != 0) = true := by rw [bne_iff_ne]; omega
                    have HSF := Lib.hid (show stepF F = some q by rw [HRF.out, ← HG.out, hG2])
                    rw [show fltN (some q) = q.1 from rfl, show fltC (some q) = q.2 from rfl]
                    have hr2 := HF2.out.blk HI.out.2.1 (by simp)
                    have q4 : can5 w2 rb = true := hr2.can5
                    have o1 : (Value.int .u8 0).oneCell' = true := rfl
                    have o2 : (Value.int .i64 0).oneCell' = true := rfl
                    have o3 : (Value.slice none 0 0).oneCell' = true := rfl
                    have HR2 := Lib.hid hr2
                    clear hc hG2 hr2
                    go_wp2_with fail
                    have hl : Fr [rb] w2 (layS w2 rb (.int .u8 0) (.int .i64 0) (.int .i64 0) (.int .i64 0) (.slice none 0 0)) := (Fr.refl _ _).lay _ _ _ _ _ _ (.inl (by simp))
                    exact bodyPost_ret (v := .tuple #[zeroStep, .int .i64 q.1, .int .i64 q.2]) (results_st3 rfl _ _ rb _ _ _ rfl rfl rfl (HR2.out.lay _ _ _ _ _).st) rfl (RStepQ.bad HSF.out ((HI.out.2.2.trans HF2.out (by simp)).trans hl (fun x hx => .inr (by have := HRB.out; simp at hx; omega))))
                  | none =>
                    have hsf : stepF F = none := by rw [HRF.out, ← HG.out, hG2]
                    have HRS := Lib.hid (And.intro hsf (HRS0.out hsf))
                    have HWN := Lib.hid (show wrongG F 2 L.data.toList = none from HG.out.symm.trans hG2)
                    rw [show fltN (none : Flt) = 0 from rfl, show fltC (none : Flt) = 0 from rfl]
                    clear hG2 hsf
                    have o1 : (Value.int .u8 j).oneCell' = true := rfl
                    have o2 : ∀ z : Int, (Value.int .i64 z).oneCell' = true := fun _ => rfl
                    have o3 : (Value.slice none 0 0).oneCell' = true := rfl
                    have q4 : can5 (w2.alloc (.cells #[.int .u8 0, .int .i64 0, .int .i64 0, .int .i64 0, .slice none 0 0] 64)) w2.heap.size = true := (Blk.new w2 _ 64).can5
                    obtain ⟨w3, hw3⟩ : ∃ w3, layS (w2.alloc (.cells #[.int .u8 0, .int .i64 0, .int .i64 0, .int .i64 0, .slice none 0 0] 64)) w2.heap.size (.int .u8 j) (.int .i64 0) (.int .i64 0) (.int .i64 0) (.slice none 0 0) = w3 := ⟨_, rfl⟩
                    obtain ⟨ob, hob⟩ : ∃ ob, ob = w2.heap.size := ⟨_, rfl⟩
                    have ho3 : Blk w3 ob #[.int .u8 j, .int .i64 0, .int .i64 0, .int .i64 0, .slice none 0 0] 64 := by rw [← hw3, hob]; exact (Blk.new w2 _ 64).lay _ _ _ _ _
                    have hf3 : Fr [] w2 w3 := by rw [← hw3]; exact ((Fr.refl [] w2).alloc _).lay _ _ _ _ _ _ (.inr (Nat.le_refl _))
                    have hr2 := HF2.out.blk HI.out.2.1 (by simp)
                    have H3 := Lib.hid (show Blk w3 ob _ 64 ∧ Blk w3 rb _ 64 ∧ Fr [] w w3 from ⟨ho3, hf3.blk hr2 (by simp), (HI.out.2.2.trans HF2.out (by simp)).trans hf3 (by simp)⟩)
                    have HOB := Lib.hid (show w.heap.size ≤ ob ∧ ob ≠ rb from ⟨by rw [hob]; exact Nat.le_trans HI.out.2.2.size HF2.out.size, by have := hr2.lt; omega⟩)
                    have HOE := Lib.hid hob
                    have HW3 := Lib.hid hw3
                    clear hw3 hob ho3 hf3 hr2
                    go_upto_region 19 with fail
                    rw [HW3.out, ← HOE.out]
                    clear q4 o1
                    have hcell : ∀ W, Fr [] w W → ∀ i, i < F.length → W.cell? ⟨g0, i, none⟩ = some (.string (fld F i)) := fun W hW i hi => by
                      have hh : F[i]? = some (fld F i) := by unfold fld; rw [List.getD_eq_getElem?_getD, List.getElem?_eq_getElem hi, Option.getD_some]
                      have := HCL.out.1 i _ hh
                      exact (hW.cell (World.block_lt_of_cell? w _ this) (by simp)).trans this
                    have HCELL := Lib.hid hcell
                    have hfsz : ∀ i, i < F.length → (fld F i).size ≤ 4294967296 := fun i hi => HCL.out.2.1 _ (by unfold fld; rw [List.getD_eq_getElem?_getD, List.getElem?_eq_getElem hi]; exact List.getElem_mem hi)
                    have HFSZ := Lib.hid hfsz
                    clear hcell hfsz
                    by_cases h66 : L = ⟨#[66]⟩
                    · have e66 : (L.toList == [66]) = true := by rw [show ([66] : List UInt8) = (⟨#[66]⟩ : ByteArray).toList by kernel_rfl]; exact beq_is h66
                      have HLL := Lib.hid (HL.out.symm.trans h66)
                      have HLD := Lib.hid (show L.data.toList = [66] by rw [h66])
                      clear h66
                      have hwn := HWN.out
                      rw [HLD.out] at hwn
                      obtain ⟨hk, hri, -⟩ := wrong_head hwn
                      have HRI := Lib.hid (show (bytL (fld F 2)).isSome = true from hri)
                      have cc := HCELL.out w3 H3.out.2.2 2 hk
                      have kk : ((2 : Nat) : Int) < (N : Int) := by rw [HNN.out]; omega
                      have HLA := Lib.hid (laid_any w3 (fld F 2) (HFSZ.out 2 hk))
                      obtain ⟨T, hT⟩ : ∃ T, T = fld F 2 := ⟨_, rfl⟩
                      rw [← hT] at cc HLA
                      have HT := Lib.hid hT
                      clear hwn hk hri hT
                      go_wp2_with fail
                      (with_reducible refine HLA.out.mono ?_)
                      rintro e w5 ⟨v, rfl, hv, f5⟩
                      obtain ⟨bp, bc, rfl⟩ := hv.form
                      obtain ⟨bl, hbl⟩ : ∃ bl, bl = (bytL T).getD [] := ⟨_, rfl⟩
                      rw [← hbl] at hv ⊢
                      have HBL := Lib.hid (show bl = (bytL (fld F 2)).getD [] by rw [hbl, HT.out])
                      have H5 := Lib.hid (show Blk w5 ob _ 64 ∧ Blk w5 rb _ 64 ∧ Fr [] w w5 ∧ BytV w5 w3.heap.size (.slice bp bl.length bc) bl from ⟨f5.blk H3.out.1 (by simp), f5.blk H3.out.2.1 (by simp), H3.out.2.2.trans f5 (by simp), hv⟩)
                      have HS3 := Lib.hid H3.out.2.2.size
                      clear hv hbl f5 cc
                      have x4 := H5.out.1.at 4 (v := .slice none 0 0) rfl
                      have g4 := H5.out.1.free 4
                      obtain ⟨w9, hw9⟩ : ∃ w9, w5.setCell ⟨ob, 4, none⟩ (.slice bp bl.length bc) = w9 := ⟨_, rfl⟩
                      have ho9 : Blk w9 ob #[.int .u8 j, .int .i64 0, .int .i64 0, .int .i64 0, .slice bp bl.length bc] 64 := by rw [← hw9]; exact H5.out.1.set 4 _
                      have hf9 : Fr [ob] w5 w9 := by rw [← hw9]; exact (Fr.refl _ _).setCell _ _ (.inl (by simp))
                      have hr9 := hf9.blk H5.out.2.1 (by have := HOB.out.2; simp; omega)
                      have q5 := ho9.st
                      have q4 : can5 w9 rb = true := hr9.can5
                      have o8 : (Value.int .u8 j).oneCell' = true := rfl
                      have o9 : (Value.slice bp bl.length bc).oneCell' = true := rfl
                      have HR9 := Lib.hid (And.intro hr9 (H5.out.2.2.1.trans hf9 (fun x hx => .inr (by have := HOB.out.1; simp at hx; omega))))
                      have HBV := Lib.hid (show BytV w9 w.heap.size (.slice bp bl.length bc) bl from (H5.out.2.2.2.fr' hf9 (fun g hg hm => H5.out.2.2.2.ne H5.out.1 (by decide) g hg (by simpa using hm))).from HS3.out)
                      have HW9 := Lib.hid hw9
                      clear hw9 ho9 hf9 hr9
                      go_upto_region 30 with fail
                      rw [HW9.out]
                      clear x4 g4
                      go_wp2_with fail
                      have hl : Fr [rb] w9 (layS w9 rb (.int .u8 j) (.int .i64 0) (.int .i64 0) (.int .i64 0) (.slice bp bl.length bc)) := (Fr.refl _ _).lay _ _ _ _ _ _ (.inl (by simp))
                      refine bodyPost_ret (v := .tuple #[.agg #[.int .u8 j, .int .i64 0, .int .i64 0, .int .i64 0, .slice bp bl.length bc], .int .i64 0, .int .i64 0]) (results_st3 rfl _ _ rb _ _ _ rfl rfl rfl (HR9.out.1.lay _ _ _ _ _).st) rfl (RStepQ.good (bv := .slice bp bl.length bc) HRS.out.1 ?_ ?_ ?_)
                      · rw [HRS.out.2]
                        unfold stOf St.val
                        rw [HLL.out]
                        rfl
                      · rw [HRS.out.2]
                        unfold stOf
                        rw [HLL.out]
                        show BytV _ _ _ ((bytL (fld F 2)).getD [])
                        rw [← HBL.out]
                        exact HBV.out.fr' hl (fun g hg hm => HBV.out.ne HR9.out.1 (by decide) g hg (by simpa using hm))
                      · exact HR9.out.2.trans hl (fun x hx => .inr (by have := HRB.out; simp at hx; omega))
                    · have e66 : (L.toList == [66]) = false := by rw [show ([66] : List UInt8) = (⟨#[66]⟩ : ByteArray).toList by kernel_rfl]; exact beq_not h66
                      by_cases h78 : L = ⟨#[78]⟩
                      · have e78 : (L.toList == [78]) = true := by rw [show ([78] : List UInt8) = (⟨#[78]⟩ : ByteArray).toList by kernel_rfl]; exact beq_is h78
                        have HLL := Lib.hid (HL.out.symm.trans h78)
                        have HLD := Lib.hid (show L.data.toList = [78] by rw [h78])
                        clear h66 h78
                        have hwn := HWN.out
                        rw [HLD.out] at hwn
                        obtain ⟨hka, hria, -⟩ := wrong_head hwn
                        have HWHa := Lib.hid (whole_any w3 (fld F (2)) (HFSZ.out (2) hka))
                        have HVa := Lib.hid (show (scan (fld F (2)).data.toList).isSome = true from hria)
                        have cca := HCELL.out w3 H3.out.2.2 (2) hka
                        have kka : ((2 : Int)) < (N : Int) := by rw [HNN.out]; omega
                        obtain ⟨Ta, hTa⟩ : ∃ T, T = fld F (2) := ⟨_, rfl⟩
                        rw [← hTa] at cca HWHa
                        have HTa := Lib.hid hTa
                        clear hTa
                        go_wp2_with fail
                        (with_reducible refine HWHa.out.mono ?_)
                        rintro e wa ⟨na, rfl, hna, fa⟩
                        have HNa := Lib.hid (show na = (scan (fld F (2)).data.toList).getD 0 from by
                          have h1 := HVa.out
                          cases hs : scan (fld F (2)).data.toList with
                          | none => rw [hs] at h1; cases h1
                          | some x => exact hna x (by rw [HTa.out]; exact hs))
                        generalize (scan Ta.data.toList).isSome = oka
                        have Hwa := Lib.hid (show Blk wa ob _ 64 ∧ Blk wa rb _ 64 ∧ Fr [] w wa from ⟨fa.blk H3.out.1 (by simp), fa.blk H3.out.2.1 (by simp), H3.out.2.2.trans fa (by simp)⟩)
                        clear hna fa cca
                        clear hwn hka hria
                        have x1 := Hwa.out.1.at 1 (v := .int .i64 0) rfl
                        have g1 := Hwa.out.1.free 1
                        obtain ⟨w9, hw9⟩ : ∃ w9, wa.setCell ⟨ob, 1, none⟩ (.int .i64 na) = w9 := ⟨_, rfl⟩
                        have ho9 : Blk w9 ob #[.int .u8 j, .int .i64 na, .int .i64 0, .int .i64 0, .slice none 0 0] 64 := by rw [← hw9]; exact Hwa.out.1.set 1 _
                        have hf9 : Fr [ob] wa w9 := by rw [← hw9]; exact (Fr.refl _ _).setCell _ _ (.inl (by simp))
                        have hr9 := hf9.blk Hwa.out.2.1 (by have := HOB.out.2; simp; omega)
                        have q5 := ho9.st
                        have q4 : can5 w9 rb = true := hr9.can5
                        have o8 : (Value.int .u8 j).oneCell' = true := rfl
                        have HR9 := Lib.hid (And.intro hr9 (Hwa.out.2.2.trans hf9 (fun x hx => .inr (by have := HOB.out.1; simp at hx; omega))))
                        have HW9 := Lib.hid hw9
                        clear hw9 ho9 hf9 hr9
                        go_upto_region 30 with fail
                        rw [HW9.out]
                        clear x1 g1
                        go_wp2_with fail
                        have hl : Fr [rb] w9 (layS w9 rb (.int .u8 j) (.int .i64 na) (.int .i64 0) (.int .i64 0) (.slice none 0 0)) := (Fr.refl _ _).lay _ _ _ _ _ _ (.inl (by simp))
                        refine bodyPost_ret (v := .tuple #[.agg #[.int .u8 j, .int .i64 na, .int .i64 0, .int .i64 0, .slice none 0 0], .int .i64 0, .int .i64 0]) (results_st3 rfl _ _ rb _ _ _ rfl rfl rfl (HR9.out.1.lay _ _ _ _ _).st) rfl (RStepQ.good (bv := .slice none 0 0) HRS.out.1 ?_ ?_ ?_)
                        · rw [HRS.out.2]
                          unfold stOf St.val
                          rw [HLL.out]
                          rw [HNa.out]
                          rfl
                        · rw [HRS.out.2]
                          unfold stOf
                          rw [HLL.out]
                          exact BytV.nil _ _
                        · exact HR9.out.2.trans hl (fun x hx => .inr (by have := HRB.out; simp at hx; omega))
                      · have e78 : (L.toList == [78]) = false := by rw [show ([78] : List UInt8) = (⟨#[78]⟩ : ByteArray).toList by kernel_rfl]; exact beq_not h78
                        by_cases h7878 : L = ⟨#[78, 78]⟩
                        · have e7878 : (L.toList == [78, 78]) = true := by rw [show ([78, 78] : List UInt8) = (⟨#[78, 78]⟩ : ByteArray).toList by kernel_rfl]; exact beq_is h7878
                          have HLL := Lib.hid (HL.out.symm.trans h7878)
                          have HLD := Lib.hid (show L.data.toList = [78, 78] by rw [h7878])
                          clear h66 h78 h7878
                          have hwn := HWN.out
                          rw [HLD.out] at hwn
                          obtain ⟨hka, hria, hwn2⟩ := wrong_head hwn
                          obtain ⟨hkb, hrib, -⟩ := wrong_head hwn2
                          have HWHa := Lib.hid (whole_any w3 (fld F (2)) (HFSZ.out (2) hka))
                          have HVa := Lib.hid (show (scan (fld F (2)).data.toList).isSome = true from hria)
                          have cca := HCELL.out w3 H3.out.2.2 (2) hka
                          have kka : ((2 : Int)) < (N : Int) := by rw [HNN.out]; omega
                          obtain ⟨Ta, hTa⟩ : ∃ T, T = fld F (2) := ⟨_, rfl⟩
                          rw [← hTa] at cca HWHa
                          have HTa := Lib.hid hTa
                          clear hTa
                          go_wp2_with fail
                          (with_reducible refine HWHa.out.mono ?_)
                          rintro e wa ⟨na, rfl, hna, fa⟩
                          have HNa := Lib.hid (show na = (scan (fld F (2)).data.toList).getD 0 from by
                            have h1 := HVa.out
                            cases hs : scan (fld F (2)).data.toList with
                            | none => rw [hs] at h1; cases h1
                            | some x => exact hna x (by rw [HTa.out]; exact hs))
                          generalize (scan Ta.data.toList).isSome = oka
                          have Hwa := Lib.hid (show Blk wa ob _ 64 ∧ Blk wa rb _ 64 ∧ Fr [] w wa from ⟨fa.blk H3.out.1 (by simp), fa.blk H3.out.2.1 (by simp), H3.out.2.2.trans fa (by simp)⟩)
                          clear hna fa cca
                          have HWHb := Lib.hid (whole_any wa (fld F (3)) (HFSZ.out (3) hkb))
                          have HVb := Lib.hid (show (scan (fld F (3)).data.toList).isSome = true from hrib)
                          have ccb := HCELL.out wa Hwa.out.2.2 (3) hkb
                          have kkb : ((3 : Int)) < (N : Int) := by rw [HNN.out]; omega
                          obtain ⟨Tb, hTb⟩ : ∃ T, T = fld F (3) := ⟨_, rfl⟩
                          rw [← hTb] at ccb HWHb
                          have HTb := Lib.hid hTb
                          clear hTb
                          go_wp2_with fail
                          (with_reducible refine HWHb.out.mono ?_)
                          rintro e wb ⟨nb, rfl, hnb, fb⟩
                          have HNb := Lib.hid (show nb = (scan (fld F (3)).data.toList).getD 0 from by
                            have h1 := HVb.out
                            cases hs : scan (fld F (3)).data.toList with
                            | none => rw [hs] at h1; cases h1
                            | some x => exact hnb x (by rw [HTb.out]; exact hs))
                          generalize (scan Tb.data.toList).isSome = okb
                          have Hwb := Lib.hid (show Blk wb ob _ 64 ∧ Blk wb rb _ 64 ∧ Fr [] w wb from ⟨fb.blk Hwa.out.1 (by simp), fb.blk Hwa.out.2.1 (by simp), Hwa.out.2.2.trans fb (by simp)⟩)
                          clear hnb fb ccb
                          clear hwn hwn2 hka hria hkb hrib
                          have x2 := Hwb.out.1.at 2 (v := .int .i64 0) rfl
                          have g2 := Hwb.out.1.free 2
                          have x3 := Hwb.out.1.at 3 (v := .int .i64 0) rfl
                          have g3 := Hwb.out.1.free 3
                          obtain ⟨w9, hw9⟩ : ∃ w9, (wb.setCell ⟨ob, 2, none⟩ (.int .i64 na)).setCell ⟨ob, 3, none⟩ (.int .i64 nb) = w9 := ⟨_, rfl⟩
                          have ho9 : Blk w9 ob #[.int .u8 j, .int .i64 0, .int .i64 na, .int .i64 nb, .slice none 0 0] 64 := by rw [← hw9]; exact (Hwb.out.1.set 2 _).set 3 _
                          have hf9 : Fr [ob] wb w9 := by rw [← hw9]; exact ((Fr.refl _ _).setCell _ _ (.inl (by simp))).setCell _ _ (.inl (by simp))
                          have hr9 := hf9.blk Hwb.out.2.1 (by have := HOB.out.2; simp; omega)
                          have q5 := ho9.st
                          have q4 : can5 w9 rb = true := hr9.can5
                          have o8 : (Value.int .u8 j).oneCell' = true := rfl
                          have HR9 := Lib.hid (And.intro hr9 (Hwb.out.2.2.trans hf9 (fun x hx => .inr (by have := HOB.out.1; simp at hx; omega))))
                          have HW9 := Lib.hid hw9
                          clear hw9 ho9 hf9 hr9
                          go_upto_region 30 with fail
                          rw [HW9.out]
                          clear x2 x3 g2 g3
                          go_wp2_with fail
                          have hl : Fr [rb] w9 (layS w9 rb (.int .u8 j) (.int .i64 0) (.int .i64 na) (.int .i64 nb) (.slice none 0 0)) := (Fr.refl _ _).lay _ _ _ _ _ _ (.inl (by simp))
                          refine bodyPost_ret (v := .tuple #[.agg #[.int .u8 j, .int .i64 0, .int .i64 na, .int .i64 nb, .slice none 0 0], .int .i64 0, .int .i64 0]) (results_st3 rfl _ _ rb _ _ _ rfl rfl rfl (HR9.out.1.lay _ _ _ _ _).st) rfl (RStepQ.good (bv := .slice none 0 0) HRS.out.1 ?_ ?_ ?_)
                          · rw [HRS.out.2]
                            unfold stOf St.val
                            rw [HLL.out]
                            rw [HNa.out, HNb.out]
                            rfl
                          · rw [HRS.out.2]
                            unfold stOf
                            rw [HLL.out]
                            exact BytV.nil _ _
                          · exact HR9.out.2.trans hl (fun x hx => .inr (by have := HRB.out; simp at hx; omega))
                        · have e7878 : (L.toList == [78, 78]) = false := by rw [show ([78, 78] : List UInt8) = (⟨#[78, 78]⟩ : ByteArray).toList by kernel_rfl]; exact beq_not h7878
                          have HLL := Lib.hid (show ¬ (wrdB j).2 = ⟨#[66]⟩ ∧ ¬ (wrdB j).2 = ⟨#[78]⟩ ∧ ¬ (wrdB j).2 = ⟨#[78, 78]⟩ from ⟨fun q => h66 (HL.out.trans q), fun q => h78 (HL.out.trans q), fun q => h7878 (HL.out.trans q)⟩)
                          clear h66 h78 h7878
                          obtain ⟨w9, hw9⟩ : ∃ w9, w3 = w9 := ⟨_, rfl⟩
                          have ho9 : Blk w9 ob #[.int .u8 j, .int .i64 0, .int .i64 0, .int .i64 0, .slice none 0 0] 64 := by rw [← hw9]; exact H3.out.1
                          have hf9 : Fr [ob] w3 w9 := by rw [← hw9]; exact Fr.refl _ _
                          have hr9 := hf9.blk H3.out.2.1 (by have := HOB.out.2; simp; omega)
                          have q5 := ho9.st
                          have q4 : can5 w9 rb = true := hr9.can5
                          have o8 : (Value.int .u8 j).oneCell' = true := rfl
                          have HR9 := Lib.hid (And.intro hr9 (H3.out.2.2.trans hf9 (fun x hx => .inr (by have := HOB.out.1; simp at hx; omega))))
                          have HW9 := Lib.hid hw9
                          clear hw9 ho9 hf9 hr9
                          go_upto_region 30 with fail
                          rw [HW9.out]
                          go_wp2_with fail
                          have hl : Fr [rb] w9 (layS w9 rb (.int .u8 j) (.int .i64 0) (.int .i64 0) (.int .i64 0) (.slice none 0 0)) := (Fr.refl _ _).lay _ _ _ _ _ _ (.inl (by simp))
                          refine bodyPost_ret (v := .tuple #[.agg #[.int .u8 j, .int .i64 0, .int .i64 0, .int .i64 0, .slice none 0 0], .int .i64 0, .int .i64 0]) (results_st3 rfl _ _ rb _ _ _ rfl rfl rfl (HR9.out.1.lay _ _ _ _ _).st) rfl (RStepQ.good (bv := .slice none 0 0) HRS.out.1 ?_ ?_ ?_)
                          · rw [HRS.out.2]
                            unfold stOf St.val
                            rw [if_neg HLL.out.1, if_neg HLL.out.2.1, if_neg HLL.out.2.2]
                          · rw [HRS.out.2]
                            unfold stOf
                            rw [if_neg HLL.out.1, if_neg HLL.out.2.1, if_neg HLL.out.2.2]
                            exact BytV.nil _ _
                          · exact HR9.out.2.trans hl (fun x hx => .inr (by have := HRB.out; simp at hx; omega))
                · have e1 : (X.toList == (sw).toList) = false := beq_not heq
                  have e1b : (X.toList != (sw).toList) = true := by rw [bne, e1]; rfl
                  have HNE := Lib.hid (show (wrdB j).1 ≠ sw by rw [← HX.out]; exact heq)
                  clear heq
                  go_wp2
                  exact ⟨⟨j + 1, rfl, by omega, by have := HJ2.out; omega, fun i h1 h2 => by
                    rcases Nat.lt_or_ge i j with h3 | h3
                    · exact HI.out.1 i h1 h3
                    · rw [show i = j by omega]; exact HNE.out, HI.out.2.1, HI.out.2.2⟩, by have := HJ2.out; show 11 - ((j : Int) + 1).toNat < 11 - ((j : Nat) : Int).toNat; omega⟩
              · obtain rfl : j = 11 := by omega
                have HSF := Lib.hid (HNONE.out HI.out.1)
                have q4 : can5 wi rb = true := HI.out.2.1.can5
                have o1 : (Value.int .u8 0).oneCell' = true := rfl
                have o2 : (Value.int .i64 0).oneCell' = true := rfl
                have o3 : (Value.slice none 0 0).oneCell' = true := rfl
                clear hle hj2
                go_wp2_with fail
                have hl : Fr [rb] wi (layS wi rb (.int .u8 0) (.int .i64 0) (.int .i64 0) (.int .i64 0) (.slice none 0 0)) := (Fr.refl _ _).lay _ _ _ _ _ _ (.inl (by simp))
                exact bodyPost_ret (v := .tuple #[zeroStep, .int .i64 0, .int .i64 280]) (results_st3 rfl _ _ rb _ _ _ rfl rfl rfl (HI.out.2.1.lay _ _ _ _ _).st) rfl (RStepQ.bad' HSF.out rfl (HI.out.2.2.trans hl (fun x hx => .inr (by have := HRB.out; simp at hx; omega))))
        · have e1 : (s1.toList != [100, 111, 119, 110]) = true := by rw [bne, show ([100, 111, 119, 110] : List UInt8) = downB.toList by kernel_rfl, beq_not (fun q => hdn (.inl q))]; rfl
          have e2 : (s1.toList != [117, 112]) = true := by rw [bne, show ([117, 112] : List UInt8) = upB.toList by kernel_rfl, beq_not (fun q => hdn (.inr q))]; rfl
          have e3 : (s1.toList == [100, 111, 119, 110]) = false := by rw [show ([100, 111, 119, 110] : List UInt8) = downB.toList by kernel_rfl, beq_not (fun q => hdn (.inl q))]
          have e5 : (s1.toList == [117, 112]) = false := by rw [show ([117, 112] : List UInt8) = upB.toList by kernel_rfl, beq_not (fun q => hdn (.inr q))]
          have HSF := Lib.hid (ref_way HTW.out hl1 (by rw [← HS1.out]; exact hdn))
          have q4 : can5 w0 rb = true := H0.out.1.can5
          have o1 : (Value.int .u8 0).oneCell' = true := rfl
          have o2 : (Value.int .i64 0).oneCell' = true := rfl
          have o3 : (Value.slice none 0 0).oneCell' = true := rfl
          clear hdn htw hl1
          go_wp2_with fail
          have hl : Fr [rb] w0 (layS w0 rb (.int .u8 0) (.int .i64 0) (.int .i64 0) (.int .i64 0) (.slice none 0 0)) := (Fr.refl _ _).lay _ _ _ _ _ _ (.inl (by simp))
          exact bodyPost_ret (v := .tuple #[zeroStep, .int .i64 1, .int .i64 281]) (results_st3 rfl _ _ rb _ _ _ rfl rfl rfl (H0.out.1.lay _ _ _ _ _).st) rfl (RStepQ.bad' HSF.out rfl (H0.out.2.trans hl (fun x hx => .inr (by have := HRB.out; simp at hx; omega))))
      · have k1 : (N : Int) < 2 := by rw [HNN.out]; omega
        have HSF := Lib.hid (ref_short HTW.out hl1)
        have q4 : can5 w0 rb = true := H0.out.1.can5
        have o1 : (Value.int .u8 0).oneCell' = true := rfl
        have o2 : (Value.int .i64 0).oneCell' = true := rfl
        have o3 : (Value.slice none 0 0).oneCell' = true := rfl
        clear htw hl1
        go_wp2_with fail
        have hl : Fr [rb] w0 (layS w0 rb (.int .u8 0) (.int .i64 0) (.int .i64 0) (.int .i64 0) (.slice none 0 0)) := (Fr.refl _ _).lay _ _ _ _ _ _ (.inl (by simp))
        exact bodyPost_ret (v := .tuple #[zeroStep, .int .i64 1, .int .i64 282]) (results_st3 rfl _ _ rb _ _ _ rfl rfl rfl (H0.out.1.lay _ _ _ _ _).st) rfl (RStepQ.bad' HSF.out rfl (H0.out.2.trans hl (fun x hx => .inr (by have := HRB.out; simp at hx; omega))))
  · have e1 : (s0.toList == [108, 111, 115, 101]) = false := by rw [show ([108, 111, 115, 101] : List UInt8) = loseB.toList by kernel_rfl]; exact beq_not (fun q => htw (.inl q))
    have e2 : (s0.toList == [116, 119, 105, 99, 101]) = false := by rw [show ([116, 119, 105, 99, 101] : List UInt8) = twiceB.toList by kernel_rfl]; exact beq_not (fun q => htw (.inr q))
    have hn1 : fld F 0 ≠ loseB := by rw [← HS0.out]; exact fun q => htw (.inl q)
    have hn2 : fld F 0 ≠ twiceB := by rw [← HS0.out]; exact fun q => htw (.inr q)
    have HFOUND := Lib.hid (fun j (h1 : 1 ≤ j) (h2 : j ≤ 10) (h3 : (wrdB j).1 = s0) => ref_one (F := F) HBK.out ⟨h1, h2⟩ (h3.trans HS0.out))
    have HNONE := Lib.hid (fun (h : ∀ i, 1 ≤ i → i < 11 → (wrdB i).1 ≠ s0) => ref_none (F := F) hn1 hn2 (fun j q1 q2 q3 => h j q1 q2 (q3.trans HS0.out.symm)))
    clear htw hn1 hn2
    go_upto_region 10 with fail
    clear e1 e2 b0
    go_wp2_with fail
    go_loopw [7] (fun kv wr => ∃ j : Nat, kv = .int .u8 j ∧ 1 ≤ j ∧ j ≤ 11 ∧ (∀ i, 1 ≤ i → i < j → (wrdB i).1 ≠ s0) ∧ Blk wr rb #[.int .u8 0, .int .i64 0, .int .i64 0, .int .i64 0, .slice none 0 0] 64 ∧ Fr [] w wr) (fun kv _ => 11 - (match kv with | .int _ q => q.toNat | _ => 0))
    case atStart => exact ⟨1, rfl, Nat.le_refl _, by omega, fun i h1 h2 => by omega, H0.out.1, H0.out.2⟩
    case round =>
      obtain ⟨j, rfl, hj1, hj2, hno, hrb, hf⟩ := hrel
      obtain ⟨wi, hwi⟩ : ∃ wi : World, wi = wr := ⟨_, rfl⟩
      rw [← hwi] at hrb hf ⊢
      clear hwi
      have HI := Lib.hid (And.intro hno (And.intro hrb hf))
      have kj1 : (j : Int) ≤ 11 := by omega
      have kj0 : (1 : Int) ≤ (j : Int) := by omega
      have HJ := Lib.hid hj1
      clear hno hrb hf hj1
      by_cases hle : j ≤ 10
      · have d1 : (j : Int) ≤ 10 := by omega
        have HJ2 := Lib.hid hle
        clear hj2 hle
        go_wp2_with fail
        (with_reducible refine (word_any _ j).mono ?_)
        rintro e wz ⟨rfl, hwz⟩
        rw [hwz]
        clear hwz
        obtain ⟨X, hX⟩ : ∃ X, X = (wrdB j).1 := ⟨_, rfl⟩
        obtain ⟨L, hL⟩ : ∃ L, L = (wrdB j).2 := ⟨_, rfl⟩
        rw [← hX, ← hL]
        have HX := Lib.hid hX
        have HL := Lib.hid hL
        clear hX hL
        by_cases heq : X = s0
        · have e1 : (X.toList == (s0).toList) = true := beq_is heq
          have e1b : (X.toList != (s0).toList) = false := by rw [bne, e1]; rfl
          obtain ⟨hrf, hrs⟩ := HFOUND.out j HJ.out HJ2.out (by rw [← HX.out]; exact heq)
          rw [← HL.out] at hrf
          have HRF := Lib.hid hrf
          have HRS0 := Lib.hid hrs
          have HWR := Lib.hid (wrong_fields wi g0 c 1 F L (fun i s hs => (HI.out.2.2.cell (World.block_lt_of_cell? w _ (HCL.out.1 i s hs)) (by simp)).trans (HCL.out.1 i s hs)) HCL.out.2.1 (by decide) (by rw [HL.out]; exact wrd_short j) HCL.out.2.2.1 HCL.out.2.2.2)
          rw [← HNN.out] at HWR
          replace HWR := Lib.hid (show Calls Tryz.prog 16 #[.slice (some ⟨g0, 0, none⟩) N c, .int .i64 1, .string L] wi _ from HWR.out)
          clear heq hrf hrs
          obtain ⟨G, hG⟩ : ∃ G, G = wrongG F 1 L.data.toList := ⟨_, rfl⟩
          rw [← hG] at HWR
          have HG := Lib.hid hG
          clear hG
          go_wp2_with fail
          (with_reducible refine HWR.out.mono ?_)
          rintro e w2 ⟨rfl, f2⟩
          have HF2 := Lib.hid f2
          clear f2
          cases hG2 : G with
          | some q =>
            have hc := wrong_code (HG.out.symm.trans hG2)
            have z1 : (q.2 != 0) = true := by rw [bne_iff_ne]; omega
            have HSF := Lib.hid (show stepF F = some q by rw [HRF.out, ← HG.out, hG2])
            rw [show fltN (some q) = q.1 from rfl, show fltC (some q) = q.2 from rfl]
            have hr2 := HF2.out.blk HI.out.2.1 (by simp)
            have q4 : can5 w2 rb = true := hr2.can5
            have o1 : (Value.int .u8 0).oneCell' = true := rfl
            have o2 : (Value.int .i64 0).oneCell' = true := rfl
            have o3 : (Value.slice none 0 0).oneCell' = true := rfl
            have HR2 := Lib.hid hr2
            clear hc hG2 hr2
            go_wp2_with fail
            have hl : Fr [rb] w2 (layS w2 rb (.int .u8 0) (.int .i64 0) (.int .i64 0) (.int .i64 0) (.slice none 0 0)) := (Fr.refl _ _).lay _ _ _ _ _ _ (.inl (by simp))
            exact bodyPost_ret (v := .tuple #[zeroStep, .int .i64 q.1, .int .i64 q.2]) (results_st3 rfl _ _ rb _ _ _ rfl rfl rfl (HR2.out.lay _ _ _ _ _).st) rfl (RStepQ.bad HSF.out ((HI.out.2.2.trans HF2.out (by simp)).trans hl (fun x hx => .inr (by have := HRB.out; simp at hx; omega))))
          | none =>
            have hsf : stepF F = none := by rw [HRF.out, ← HG.out, hG2]
            have HRS := Lib.hid (And.intro hsf (HRS0.out hsf))
            have HWN := Lib.hid (show wrongG F 1 L.data.toList = none from HG.out.symm.trans hG2)
            rw [show fltN (none : Flt) = 0 from rfl, show fltC (none : Flt) = 0 from rfl]
            clear hG2 hsf
            have o1 : (Value.int .u8 j).oneCell' = true := rfl
            have o2 : ∀ z : Int, (Value.int .i64 z).oneCell' = true := fun _ => rfl
            have o3 : (Value.slice none 0 0).oneCell' = true := rfl
            have q4 : can5 (w2.alloc (.cells #[.int .u8 0, .int .i64 0, .int .i64 0, .int .i64 0, .slice none 0 0] 64)) w2.heap.size = true := (Blk.new w2 _ 64).can5
            obtain ⟨w3, hw3⟩ : ∃ w3, layS (w2.alloc (.cells #[.int .u8 0, .int .i64 0, .int .i64 0, .int .i64 0, .slice none 0 0] 64)) w2.heap.size (.int .u8 j) (.int .i64 0) (.int .i64 0) (.int .i64 0) (.slice none 0 0) = w3 := ⟨_, rfl⟩
            obtain ⟨ob, hob⟩ : ∃ ob, ob = w2.heap.size := ⟨_, rfl⟩
            have ho3 : Blk w3 ob #[.int .u8 j, .int .i64 0, .int .i64 0, .int .i64 0, .slice none 0 0] 64 := by rw [← hw3, hob]; exact (Blk.new w2 _ 64).lay _ _ _ _ _
            have hf3 : Fr [] w2 w3 := by rw [← hw3]; exact ((Fr.refl [] w2).alloc _).lay _ _ _ _ _ _ (.inr (Nat.le_refl _))
            have hr2 := HF2.out.blk HI.out.2.1 (by simp)
            have H3 := Lib.hid (show Blk w3 ob _ 64 ∧ Blk w3 rb _ 64 ∧ Fr [] w w3 from ⟨ho3, hf3.blk hr2 (by simp), (HI.out.2.2.trans HF2.out (by simp)).trans hf3 (by simp)⟩)
            have HOB := Lib.hid (show w.heap.size ≤ ob ∧ ob ≠ rb from ⟨by rw [hob]; exact Nat.le_trans HI.out.2.2.size HF2.out.size, by have := hr2.lt; omega⟩)
            have HOE := Lib.hid hob
            have HW3 := Lib.hid hw3
            clear hw3 hob ho3 hf3 hr2
            go_upto_region 19 with fail
            rw [HW3.out, ← HOE.out]
            clear q4 o1
            have hcell : ∀ W, Fr [] w W → ∀ i, i < F.length → W.cell? ⟨g0, i, none⟩ = some (.string (fld F i)) := fun W hW i hi => by
              have hh : F[i]? = some (fld F i) := by unfold fld; rw [List.getD_eq_getElem?_getD, List.getElem?_eq_getElem hi, Option.getD_some]
              have := HCL.out.1 i _ hh
              exact (hW.cell (World.block_lt_of_cell? w _ this) (by simp)).trans this
            have HCELL := Lib.hid hcell
            have hfsz : ∀ i, i < F.length → (fld F i).size ≤ 4294967296 := fun i hi => HCL.out.2.1 _ (by unfold fld; rw [List.getD_eq_getElem?_getD, List.getElem?_eq_getElem hi]; exact List.getElem_mem hi)
            have HFSZ := Lib.hid hfsz
            clear hcell hfsz
            by_cases h66 : L = ⟨#[66]⟩
            · have e66 : (L.toList == [66]) = true := by rw [show ([66] : List UInt8) = (⟨#[66]⟩ : ByteArray).toList by kernel_rfl]; exact beq_is h66
              have HLL := Lib.hid (HL.out.symm.trans h66)
              have HLD := Lib.hid (show L.data.toList = [66] by rw [h66])
              clear h66
              have hwn := HWN.out
              rw [HLD.out] at hwn
              obtain ⟨hk, hri, -⟩ := wrong_head hwn
              have HRI := Lib.hid (show (bytL (fld F 1)).isSome = true from hri)
              have cc := HCELL.out w3 H3.out.2.2 1 hk
              have kk : ((1 : Nat) : Int) < (N : Int) := by rw [HNN.out]; omega
              have HLA := Lib.hid (laid_any w3 (fld F 1) (HFSZ.out 1 hk))
              obtain ⟨T, hT⟩ : ∃ T, T = fld F 1 := ⟨_, rfl⟩
              rw [← hT] at cc HLA
              have HT := Lib.hid hT
              clear hwn hk hri hT
              go_wp2_with fail
              (with_reducible refine HLA.out.mono ?_)
              rintro e w5 ⟨v, rfl, hv, f5⟩
              obtain ⟨bp, bc, rfl⟩ := hv.form
              obtain ⟨bl, hbl⟩ : ∃ bl, bl = (bytL T).getD [] := ⟨_, rfl⟩
              rw [← hbl] at hv ⊢
              have HBL := Lib.hid (show bl = (bytL (fld F 1)).getD [] by rw [hbl, HT.out])
              have H5 := Lib.hid (show Blk w5 ob _ 64 ∧ Blk w5 rb _ 64 ∧ Fr [] w w5 ∧ BytV w5 w3.heap.size (.slice bp bl.length bc) bl from ⟨f5.blk H3.out.1 (by simp), f5.blk H3.out.2.1 (by simp), H3.out.2.2.trans f5 (by simp), hv⟩)
              have HS3 := Lib.hid H3.out.2.2.size
              clear hv hbl f5 cc
              have x4 := H5.out.1.at 4 (v := .slice none 0 0) rfl
              have g4 := H5.out.1.free 4
              obtain ⟨w9, hw9⟩ : ∃ w9, w5.setCell ⟨ob, 4, none⟩ (.slice bp bl.length bc) = w9 := ⟨_, rfl⟩
              have ho9 : Blk w9 ob #[.int .u8 j, .int .i64 0, .int .i64 0, .int .i64 0, .slice bp bl.length bc] 64 := by rw [← hw9]; exact H5.out.1.set 4 _
              have hf9 : Fr [ob] w5 w9 := by rw [← hw9]; exact (Fr.refl _ _).setCell _ _ (.inl (by simp))
              have hr9 := hf9.blk H5.out.2.1 (by have := HOB.out.2; simp; omega)
              have q5 := ho9.st
              have q4 : can5 w9 rb = true := hr9.can5
              have o8 : (Value.int .u8 j).oneCell' = true := rfl
              have o9 : (Value.slice bp bl.length bc).oneCell' = true := rfl
              have HR9 := Lib.hid (And.intro hr9 (H5.out.2.2.1.trans hf9 (fun x hx => .inr (by have := HOB.out.1; simp at hx; omega))))
              have HBV := Lib.hid (show BytV w9 w.heap.size (.slice bp bl.length bc) bl from (H5.out.2.2.2.fr' hf9 (fun g hg hm => H5.out.2.2.2.ne H5.out.1 (by decide) g hg (by simpa using hm))).from HS3.out)
              have HW9 := Lib.hid hw9
              clear hw9 ho9 hf9 hr9
              go_upto_region 30 with fail
              rw [HW9.out]
              clear x4 g4
              go_wp2_with fail
              have hl : Fr [rb] w9 (layS w9 rb (.int .u8 j) (.int .i64 0) (.int .i64 0) (.int .i64 0) (.slice bp bl.length bc)) := (Fr.refl _ _).lay _ _ _ _ _ _ (.inl (by simp))
              refine bodyPost_ret (v := .tuple #[.agg #[.int .u8 j, .int .i64 0, .int .i64 0, .int .i64 0, .slice bp bl.length bc], .int .i64 0, .int .i64 0]) (results_st3 rfl _ _ rb _ _ _ rfl rfl rfl (HR9.out.1.lay _ _ _ _ _).st) rfl (RStepQ.good (bv := .slice bp bl.length bc) HRS.out.1 ?_ ?_ ?_)
              · rw [HRS.out.2]
                unfold stOf St.val
                rw [HLL.out]
                rfl
              · rw [HRS.out.2]
                unfold stOf
                rw [HLL.out]
                show BytV _ _ _ ((bytL (fld F 1)).getD [])
                rw [← HBL.out]
                exact HBV.out.fr' hl (fun g hg hm => HBV.out.ne HR9.out.1 (by decide) g hg (by simpa using hm))
              · exact HR9.out.2.trans hl (fun x hx => .inr (by have := HRB.out; simp at hx; omega))
            · have e66 : (L.toList == [66]) = false := by rw [show ([66] : List UInt8) = (⟨#[66]⟩ : ByteArray).toList by kernel_rfl]; exact beq_not h66
              by_cases h78 : L = ⟨#[78]⟩
              · have e78 : (L.toList == [78]) = true := by rw [show ([78] : List UInt8) = (⟨#[78]⟩ : ByteArray).toList by kernel_rfl]; exact beq_is h78
                have HLL := Lib.hid (HL.out.symm.trans h78)
                have HLD := Lib.hid (show L.data.toList = [78] by rw [h78])
                clear h66 h78
                have hwn := HWN.out
                rw [HLD.out] at hwn
                obtain ⟨hka, hria, -⟩ := wrong_head hwn
                have HWHa := Lib.hid (whole_any w3 (fld F (1)) (HFSZ.out (1) hka))
                have HVa := Lib.hid (show (scan (fld F (1)).data.toList).isSome = true from hria)
                have cca := HCELL.out w3 H3.out.2.2 (1) hka
                have kka : ((1 : Int)) < (N : Int) := by rw [HNN.out]; omega
                obtain ⟨Ta, hTa⟩ : ∃ T, T = fld F (1) := ⟨_, rfl⟩
                rw [← hTa] at cca HWHa
                have HTa := Lib.hid hTa
                clear hTa
                go_wp2_with fail
                (with_reducible refine HWHa.out.mono ?_)
                rintro e wa ⟨na, rfl, hna, fa⟩
                have HNa := Lib.hid (show na = (scan (fld F (1)).data.toList).getD 0 from by
                  have h1 := HVa.out
                  cases hs : scan (fld F (1)).data.toList with
                  | none => rw [hs] at h1; cases h1
                  | some x => exact hna x (by rw [HTa.out]; exact hs))
                generalize (scan Ta.data.toList).isSome = oka
                have Hwa := Lib.hid (show Blk wa ob _ 64 ∧ Blk wa rb _ 64 ∧ Fr [] w wa from ⟨fa.blk H3.out.1 (by simp), fa.blk H3.out.2.1 (by simp), H3.out.2.2.trans fa (by simp)⟩)
                clear hna fa cca
                clear hwn hka hria
                have x1 := Hwa.out.1.at 1 (v := .int .i64 0) rfl
                have g1 := Hwa.out.1.free 1
                obtain ⟨w9, hw9⟩ : ∃ w9, wa.setCell ⟨ob, 1, none⟩ (.int .i64 na) = w9 := ⟨_, rfl⟩
                have ho9 : Blk w9 ob #[.int .u8 j, .int .i64 na, .int .i64 0, .int .i64 0, .slice none 0 0] 64 := by rw [← hw9]; exact Hwa.out.1.set 1 _
                have hf9 : Fr [ob] wa w9 := by rw [← hw9]; exact (Fr.refl _ _).setCell _ _ (.inl (by simp))
                have hr9 := hf9.blk Hwa.out.2.1 (by have := HOB.out.2; simp; omega)
                have q5 := ho9.st
                have q4 : can5 w9 rb = true := hr9.can5
                have o8 : (Value.int .u8 j).oneCell' = true := rfl
                have HR9 := Lib.hid (And.intro hr9 (Hwa.out.2.2.trans hf9 (fun x hx => .inr (by have := HOB.out.1; simp at hx; omega))))
                have HW9 := Lib.hid hw9
                clear hw9 ho9 hf9 hr9
                go_upto_region 30 with fail
                rw [HW9.out]
                clear x1 g1
                go_wp2_with fail
                have hl : Fr [rb] w9 (layS w9 rb (.int .u8 j) (.int .i64 na) (.int .i64 0) (.int .i64 0) (.slice none 0 0)) := (Fr.refl _ _).lay _ _ _ _ _ _ (.inl (by simp))
                refine bodyPost_ret (v := .tuple #[.agg #[.int .u8 j, .int .i64 na, .int .i64 0, .int .i64 0, .slice none 0 0], .int .i64 0, .int .i64 0]) (results_st3 rfl _ _ rb _ _ _ rfl rfl rfl (HR9.out.1.lay _ _ _ _ _).st) rfl (RStepQ.good (bv := .slice none 0 0) HRS.out.1 ?_ ?_ ?_)
                · rw [HRS.out.2]
                  unfold stOf St.val
                  rw [HLL.out]
                  rw [HNa.out]
                  rfl
                · rw [HRS.out.2]
                  unfold stOf
                  rw [HLL.out]
                  exact BytV.nil _ _
                · exact HR9.out.2.trans hl (fun x hx => .inr (by have := HRB.out; simp at hx; omega))
              · have e78 : (L.toList == [78]) = false := by rw [show ([78] : List UInt8) = (⟨#[78]⟩ : ByteArray).toList by kernel_rfl]; exact beq_not h78
                by_cases h7878 : L = ⟨#[78, 78]⟩
                · have e7878 : (L.toList == [78, 78]) = true := by rw [show ([78, 78] : List UInt8) = (⟨#[78, 78]⟩ : ByteArray).toList by kernel_rfl]; exact beq_is h7878
                  have HLL := Lib.hid (HL.out.symm.trans h7878)
                  have HLD := Lib.hid (show L.data.toList = [78, 78] by rw [h7878])
                  clear h66 h78 h7878
                  have hwn := HWN.out
                  rw [HLD.out] at hwn
                  obtain ⟨hka, hria, hwn2⟩ := wrong_head hwn
                  obtain ⟨hkb, hrib, -⟩ := wrong_head hwn2
                  have HWHa := Lib.hid (whole_any w3 (fld F (1)) (HFSZ.out (1) hka))
                  have HVa := Lib.hid (show (scan (fld F (1)).data.toList).isSome = true from hria)
                  have cca := HCELL.out w3 H3.out.2.2 (1) hka
                  have kka : ((1 : Int)) < (N : Int) := by rw [HNN.out]; omega
                  obtain ⟨Ta, hTa⟩ : ∃ T, T = fld F (1) := ⟨_, rfl⟩
                  rw [← hTa] at cca HWHa
                  have HTa := Lib.hid hTa
                  clear hTa
                  go_wp2_with fail
                  (with_reducible refine HWHa.out.mono ?_)
                  rintro e wa ⟨na, rfl, hna, fa⟩
                  have HNa := Lib.hid (show na = (scan (fld F (1)).data.toList).getD 0 from by
                    have h1 := HVa.out
                    cases hs : scan (fld F (1)).data.toList with
                    | none => rw [hs] at h1; cases h1
                    | some x => exact hna x (by rw [HTa.out]; exact hs))
                  generalize (scan Ta.data.toList).isSome = oka
                  have Hwa := Lib.hid (show Blk wa ob _ 64 ∧ Blk wa rb _ 64 ∧ Fr [] w wa from ⟨fa.blk H3.out.1 (by simp), fa.blk H3.out.2.1 (by simp), H3.out.2.2.trans fa (by simp)⟩)
                  clear hna fa cca
                  have HWHb := Lib.hid (whole_any wa (fld F (2)) (HFSZ.out (2) hkb))
                  have HVb := Lib.hid (show (scan (fld F (2)).data.toList).isSome = true from hrib)
                  have ccb := HCELL.out wa Hwa.out.2.2 (2) hkb
                  have kkb : ((2 : Int)) < (N : Int) := by rw [HNN.out]; omega
                  obtain ⟨Tb, hTb⟩ : ∃ T, T = fld F (2) := ⟨_, rfl⟩
                  rw [← hTb] at ccb HWHb
                  have HTb := Lib.hid hTb
                  clear hTb
                  go_wp2_with fail
                  (with_reducible refine HWHb.out.mono ?_)
                  rintro e wb ⟨nb, rfl, hnb, fb⟩
                  have HNb := Lib.hid (show nb = (scan (fld F (2)).data.toList).getD 0 from by
                    have h1 := HVb.out
                    cases hs : scan (fld F (2)).data.toList with
                    | none => rw [hs] at h1; cases h1
                    | some x => exact hnb x (by rw [HTb.out]; exact hs))
                  generalize (scan Tb.data.toList).isSome = okb
                  have Hwb := Lib.hid (show Blk wb ob _ 64 ∧ Blk wb rb _ 64 ∧ Fr [] w wb from ⟨fb.blk Hwa.out.1 (by simp), fb.blk Hwa.out.2.1 (by simp), Hwa.out.2.2.trans fb (by simp)⟩)
                  clear hnb fb ccb
                  clear hwn hwn2 hka hria hkb hrib
                  have x2 := Hwb.out.1.at 2 (v := .int .i64 0) rfl
                  have g2 := Hwb.out.1.free 2
                  have x3 := Hwb.out.1.at 3 (v := .int .i64 0) rfl
                  have g3 := Hwb.out.1.free 3
                  obtain ⟨w9, hw9⟩ : ∃ w9, (wb.setCell ⟨ob, 2, none⟩ (.int .i64 na)).setCell ⟨ob, 3, none⟩ (.int .i64 nb) = w9 := ⟨_, rfl⟩
                  have ho9 : Blk w9 ob #[.int .u8 j, .int .i64 0, .int .i64 na, .int .i64 nb, .slice none 0 0] 64 := by rw [← hw9]; exact (Hwb.out.1.set 2 _).set 3 _
                  have hf9 : Fr [ob] wb w9 := by rw [← hw9]; exact ((Fr.refl _ _).setCell _ _ (.inl (by simp))).setCell _ _ (.inl (by simp))
                  have hr9 := hf9.blk Hwb.out.2.1 (by have := HOB.out.2; simp; omega)
                  have q5 := ho9.st
                  have q4 : can5 w9 rb = true := hr9.can5
                  have o8 : (Value.int .u8 j).oneCell' = true := rfl
                  have HR9 := Lib.hid (And.intro hr9 (Hwb.out.2.2.trans hf9 (fun x hx => .inr (by have := HOB.out.1; simp at hx; omega))))
                  have HW9 := Lib.hid hw9
                  clear hw9 ho9 hf9 hr9
                  go_upto_region 30 with fail
                  rw [HW9.out]
                  clear x2 x3 g2 g3
                  go_wp2_with fail
                  have hl : Fr [rb] w9 (layS w9 rb (.int .u8 j) (.int .i64 0) (.int .i64 na) (.int .i64 nb) (.slice none 0 0)) := (Fr.refl _ _).lay _ _ _ _ _ _ (.inl (by simp))
                  refine bodyPost_ret (v := .tuple #[.agg #[.int .u8 j, .int .i64 0, .int .i64 na, .int .i64 nb, .slice none 0 0], .int .i64 0, .int .i64 0]) (results_st3 rfl _ _ rb _ _ _ rfl rfl rfl (HR9.out.1.lay _ _ _ _ _).st) rfl (RStepQ.good (bv := .slice none 0 0) HRS.out.1 ?_ ?_ ?_)
                  · rw [HRS.out.2]
                    unfold stOf St.val
                    rw [HLL.out]
                    rw [HNa.out, HNb.out]
                    rfl
                  · rw [HRS.out.2]
                    unfold stOf
                    rw [HLL.out]
                    exact BytV.nil _ _
                  · exact HR9.out.2.trans hl (fun x hx => .inr (by have := HRB.out; simp at hx; omega))
                · have e7878 : (L.toList == [78, 78]) = false := by rw [show ([78, 78] : List UInt8) = (⟨#[78, 78]⟩ : ByteArray).toList by kernel_rfl]; exact beq_not h7878
                  have HLL := Lib.hid (show ¬ (wrdB j).2 = ⟨#[66]⟩ ∧ ¬ (wrdB j).2 = ⟨#[78]⟩ ∧ ¬ (wrdB j).2 = ⟨#[78, 78]⟩ from ⟨fun q => h66 (HL.out.trans q), fun q => h78 (HL.out.trans q), fun q => h7878 (HL.out.trans q)⟩)
                  clear h66 h78 h7878
                  obtain ⟨w9, hw9⟩ : ∃ w9, w3 = w9 := ⟨_, rfl⟩
                  have ho9 : Blk w9 ob #[.int .u8 j, .int .i64 0, .int .i64 0, .int .i64 0, .slice none 0 0] 64 := by rw [← hw9]; exact H3.out.1
                  have hf9 : Fr [ob] w3 w9 := by rw [← hw9]; exact Fr.refl _ _
                  have hr9 := hf9.blk H3.out.2.1 (by have := HOB.out.2; simp; omega)
                  have q5 := ho9.st
                  have q4 : can5 w9 rb = true := hr9.can5
                  have o8 : (Value.int .u8 j).oneCell' = true := rfl
                  have HR9 := Lib.hid (And.intro hr9 (H3.out.2.2.trans hf9 (fun x hx => .inr (by have := HOB.out.1; simp at hx; omega))))
                  have HW9 := Lib.hid hw9
                  clear hw9 ho9 hf9 hr9
                  go_upto_region 30 with fail
                  rw [HW9.out]
                  go_wp2_with fail
                  have hl : Fr [rb] w9 (layS w9 rb (.int .u8 j) (.int .i64 0) (.int .i64 0) (.int .i64 0) (.slice none 0 0)) := (Fr.refl _ _).lay _ _ _ _ _ _ (.inl (by simp))
                  refine bodyPost_ret (v := .tuple #[.agg #[.int .u8 j, .int .i64 0, .int .i64 0, .int .i64 0, .slice none 0 0], .int .i64 0, .int .i64 0]) (results_st3 rfl _ _ rb _ _ _ rfl rfl rfl (HR9.out.1.lay _ _ _ _ _).st) rfl (RStepQ.good (bv := .slice none 0 0) HRS.out.1 ?_ ?_ ?_)
                  · rw [HRS.out.2]
                    unfold stOf St.val
                    rw [if_neg HLL.out.1, if_neg HLL.out.2.1, if_neg HLL.out.2.2]
                  · rw [HRS.out.2]
                    unfold stOf
                    rw [if_neg HLL.out.1, if_neg HLL.out.2.1, if_neg HLL.out.2.2]
                    exact BytV.nil _ _
                  · exact HR9.out.2.trans hl (fun x hx => .inr (by have := HRB.out; simp at hx; omega))
        · have e1 : (X.toList == (s0).toList) = false := beq_not heq
          have e1b : (X.toList != (s0).toList) = true := by rw [bne, e1]; rfl
          have HNE := Lib.hid (show (wrdB j).1 ≠ s0 by rw [← HX.out]; exact heq)
          clear heq
          go_wp2
          exact ⟨⟨j + 1, rfl, by omega, by have := HJ2.out; omega, fun i h1 h2 => by
            rcases Nat.lt_or_ge i j with h3 | h3
            · exact HI.out.1 i h1 h3
            · rw [show i = j by omega]; exact HNE.out, HI.out.2.1, HI.out.2.2⟩, by have := HJ2.out; show 11 - ((j : Int) + 1).toNat < 11 - ((j : Nat) : Int).toNat; omega⟩
      · obtain rfl : j = 11 := by omega
        have HSF := Lib.hid (HNONE.out HI.out.1)
        have q4 : can5 wi rb = true := HI.out.2.1.can5
        have o1 : (Value.int .u8 0).oneCell' = true := rfl
        have o2 : (Value.int .i64 0).oneCell' = true := rfl
        have o3 : (Value.slice none 0 0).oneCell' = true := rfl
        clear hle hj2
        go_wp2_with fail
        have hl : Fr [rb] wi (layS wi rb (.int .u8 0) (.int .i64 0) (.int .i64 0) (.int .i64 0) (.slice none 0 0)) := (Fr.refl _ _).lay _ _ _ _ _ _ (.inl (by simp))
        exact bodyPost_ret (v := .tuple #[zeroStep, .int .i64 0, .int .i64 280]) (results_st3 rfl _ _ rb _ _ _ rfl rfl rfl (HI.out.2.1.lay _ _ _ _ _).st) rfl (RStepQ.bad' HSF.out rfl (HI.out.2.2.trans hl (fun x hx => .inr (by have := HRB.out; simp at hx; omega))))
end Sc
end Go.Proofs.YtbpgpjibljgiiaaGreatDoor
