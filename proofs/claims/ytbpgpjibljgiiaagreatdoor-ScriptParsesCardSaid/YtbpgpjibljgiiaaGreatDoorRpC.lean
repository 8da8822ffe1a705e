/-
  The document's Parse. Printed by genRp.py.
-/
import Derived.Test.YtbpgpjibljgiiaaGreatDoorRpM
import Derived.Deep.CutBlock
namespace Go.Proofs.YtbpgpjibljgiiaaGreatDoor
open Go.RowKit
set_option linter.unusedVariables false
set_option linter.unusedSimpArgs false
attribute [local go_sem] Oper.semAt_some
attribute [local go_sem ↓] loadVar29 storeVar29 storeVar23 storeVar33 loadVar44 storeVar44
attribute [local go_sem] run_loadScr run_storeScr run_storeCf run_storeFt run_loadSt run_storeSt
namespace Sc
set_option maxRecDepth 100000 in
set_option maxHeartbeats 16000000 in
theorem rparse_go (w : World) (t : ByteArray) (h : t.size ≤ 4194304) : Calls Tryz.prog 5 #[.string t] w fun e w' => RParQ w.heap.size w (parseP t) e w' := by
  obtain ⟨R, hR⟩ : ∃ R, R = parseP t := ⟨_, rfl⟩
  obtain ⟨T, hT⟩ : ∃ T, T = t.data.toList := ⟨_, rfl⟩
  have hZ : T.length = t.size := by rw [hT]; exact size_list _
  obtain ⟨GR, hGR⟩ : ∃ GR, GR = goP 1 (pieces 10 T) zeros [] := ⟨_, rfl⟩
  have HR := Lib.hid (show R = fin GR by rw [hR, hGR, hT]; unfold parseP; rw [if_neg (by omega)])
  have HT := Lib.hid (And.intro hT (And.intro hZ h))
  obtain ⟨n0, hn0⟩ : ∃ n0, n0 = w.heap.size := ⟨_, rfl⟩
  rw [← hR, ← hn0]
  obtain ⟨rb, hrb⟩ : ∃ rb, rb = w.heap.size := ⟨_, rfl⟩
  obtain ⟨fb, hfb⟩ : ∃ fb, fb = w.heap.size + 1 := ⟨_, rfl⟩
  obtain ⟨w1, hw1⟩ : ∃ w1, (w.alloc (.cells #[.int .i64 0, .int .i64 0, .int .i64 0, .int .i64 0, .int .i64 0, .int .i64 0, .int .i64 0, .int .i64 0, .int .i64 0, .int .i64 0, .int .i64 0, .slice none 0 0] 26)).alloc (.cells #[.int .i64 0, .int .i64 0, .int .i64 0] 33) = w1 := ⟨_, rfl⟩
  obtain ⟨sb, hsb⟩ : ∃ sb, sb = w1.heap.size := ⟨_, rfl⟩
  obtain ⟨w2, hw2⟩ : ∃ w2, w1.alloc (.cells #[.int .i64 0, .int .i64 0, .int .i64 0, .int .i64 0, .int .i64 0, .int .i64 0, .int .i64 0, .int .i64 0, .int .i64 0, .int .i64 0, .int .i64 0, .slice none 0 0] 26) = w2 := ⟨_, rfl⟩
  have hr1 : Blk w1 rb zeroScr 26 := by rw [← hw1]; exact (Blk.new_at hrb _ _).alloc _
  have hf1 : Blk w1 fb #[.int .i64 0, .int .i64 0, .int .i64 0] 33 := by rw [← hw1]; exact Blk.new_at (by simp; omega) _ _
  have f1 : Fr [] w w1 := by rw [← hw1]; exact ((Fr.refl _ _).alloc _).alloc _
  have HNB := Lib.hid (show w.heap.size ≤ rb ∧ w.heap.size ≤ fb ∧ n0 = w.heap.size ∧ rb ≠ fb ∧ w.heap.size ≤ sb ∧ rb ≠ sb ∧ fb ≠ sb from ⟨by omega, by omega, hn0, by omega, by rw [hsb]; exact f1.size, by have := hr1.lt; omega, by have := hf1.lt; omega⟩)
  have H0 := Lib.hid (show RpI w n0 rb fb sb GR T 0 1 false w2 from by
    rw [← hw2]
    refine ⟨⟨Nat.le_refl _, Nat.le_refl _, Nat.zero_le _⟩, hr1.alloc _, hf1.alloc _, ⟨zeros, .slice none 0 0, [], rfl, Blk.new_at hsb zeroScr 26, ⟨World.ownsRow_nil _ _ _ _, by simp [Value.ownBlock], by simp⟩, by simp, Nat.zero_le _, ⟨fun _ => by rw [hGR]; rfl, fun q => by cases q⟩⟩, f1.alloc _⟩)
  have HW1 := Lib.hid (And.intro hw1 (And.intro hrb hfb))
  have HW2 := Lib.hid (And.intro hw2 hsb)
  have kT : (t.size : Int) ≤ 4194304 := by omega
  clear hR hT hZ hGR h hn0 hrb hfb hw1 hsb hw2 hr1 hf1 f1
  go_enter Tryz.func5, Tryz.ntmps5
  go_upto_region 1 with fail
  rw [HW1.out.1, ← HW1.out.2.2, ← HW1.out.2.1]
  go_upto_region 4 with fail
  rw [HW2.out.1, ← HW2.out.2]
  go_wp2_with fail
  go_loopw [5, 6, 7] (fun fv ev lv wr => ∃ (n k : Nat) (en : Bool), fv = .int .i64 n ∧ ev = .bool en ∧ lv = .int .i64 k ∧ RpI w n0 rb fb sb GR T n k en wr) (fun fv _ _ _ => t.size - (match fv with | .int _ q => q.toNat | _ => 0))
  case atStart => exact ⟨0, 1, false, rfl, rfl, rfl, H0.out⟩
  case round =>
    obtain ⟨n, k, en, rfl, rfl, rfl, hI⟩ := hrel
    obtain ⟨wi, hwi⟩ : ∃ wi : World, wi = wr := ⟨_, rfl⟩
    rw [← hwi] at hI ⊢
    clear hwi
    have HI := Lib.hid hI
    have kn0 : (0 : Int) ≤ (n : Int) := by omega
    have kn1 : (n : Int) ≤ (t.size : Int) := by have := hI.nk.2.2; have := HT.out.2.1; omega
    have kk0 : (1 : Int) ≤ (k : Int) := by have := hI.nk.1; omega
    have kk1 : (k : Int) ≤ 4194306 := by have := hI.nk.2.1; omega
    clear hI
    by_cases hlt : n < t.size
    · have d1 : (n : Int) < (t.size : Int) := by omega
      have HLT := Lib.hid hlt
      clear hlt
      go_wp2_with fail
      go_loopw [8] (fun mv wr => ∃ m : Nat, mv = .int .i64 m ∧ n ≤ m ∧ m ≤ t.size ∧ (10 : UInt8) ∉ (T.drop n).take (m - n) ∧ wr = wi) (fun mv _ => t.size - (match mv with | .int _ q => q.toNat | _ => 0))
      case atStart => exact ⟨n, rfl, Nat.le_refl _, by have := HLT.out; omega, by simp, rfl⟩
      case round =>
        obtain ⟨m, rfl, hm1, hm2, hm3, rfl⟩ := hrel
        have HM := Lib.hid (And.intro hm1 (And.intro hm2 hm3))
        have km0 : (n : Int) ≤ (m : Int) := by omega
        have km1 : (m : Int) ≤ (t.size : Int) := by omega
        have km2 : (0 : Int) ≤ (m : Int) := by omega
        clear hm1 hm2 hm3
        by_cases hml : m < t.size
        · have d2 : (m : Int) < (t.size : Int) := by omega
          have d3 : ((m : Int) == (t.size : Int)) = false := by rw [beq_eq_false_iff_ne]; omega
          obtain ⟨a, ha⟩ : ∃ a : UInt8, t[m] = a := ⟨_, rfl⟩
          have hTm : T[m]'(by have := HT.out.2.1; omega) = a := by
            have h1 : t.data.toList[m]'(by rw [Array.length_toList]; exact hml) = a := by rw [← ha]; rfl
            have h2 := HT.out.1
            subst h2
            exact h1
          have HML := Lib.hid hml
          by_cases h10 : a = 10
          · have e2 : ((a.toNat : Int) != 10) = false := by rw [h10]; rfl
            have HSP := Lib.hid (show T.drop n = (T.drop n).take (m - n) ++ 10 :: T.drop (m + 1) from drop_split HM.out.1 (by have := HT.out.2.1; omega) (by rw [hTm, h10]))
            clear h10 hTm
            cases en with
            | true =>
              have HGE := Lib.hid (show GR = .error (k, 0, 283) from by
                obtain ⟨cfg, v, C, hS⟩ := HI.out.st
                rw [hS.go.2 rfl, if_neg]
                rw [HSP.out]
                simp)
              obtain ⟨b1, b2, b3, b4⟩ := bad_boxes (a := .int .i64 k) (b := .int .i64 0) (c := .int .i64 283) HI.out.rb HI.out.fb HI.out.fr HNB.out.1 HNB.out.2.1
              have q1 := (HI.out.rb).can12 rfl
              have zo := scrOk_zero
              have q2 : can3 (layA wr rb #[.int .i64 0, .int .i64 0, .int .i64 0, .int .i64 0, .int .i64 0, .int .i64 0, .int .i64 0, .int .i64 0, .int .i64 0, .int .i64 0, .int .i64 0, .slice none 0 0]) fb = true := b1
              have fo : ftOk #[.int .i64 k, .int .i64 0, .int .i64 283] = true := ftOk3 _ _ _
              obtain ⟨wz, hwz⟩ : ∃ wz, layA (layA wr rb #[.int .i64 0, .int .i64 0, .int .i64 0, .int .i64 0, .int .i64 0, .int .i64 0, .int .i64 0, .int .i64 0, .int .i64 0, .int .i64 0, .int .i64 0, .slice none 0 0]) fb #[.int .i64 k, .int .i64 0, .int .i64 283] = wz := ⟨_, rfl⟩
              have HWZ := Lib.hid hwz
              have HZ := Lib.hid (show Blk wz rb zeroScr 26 ∧ Blk wz fb #[.int .i64 k, .int .i64 0, .int .i64 283] 33 ∧ Fr [] w wz from by rw [← hwz]; exact ⟨b2, b3, b4⟩)
              clear b1 b2 b3 b4 hwz
              go_wp2
              rw [HWZ.out]
              exact bodyPost_ret (results_two rfl _ _ rb fb _ _ _ _ rfl rfl (HZ.out.1.scr rfl) HZ.out.2.1) rfl (RParQ.bad (l := k) (a := 0) (by rw [HR.out, HGE.out]; rfl) HZ.out.2.2)
            | false =>
              obtain ⟨la, hla⟩ : ∃ la, la = (T.drop n).take (m - n) := ⟨_, rfl⟩
              rw [← hla] at HSP
              obtain ⟨X, hX⟩ : ∃ X, X = t.extract n m := ⟨_, rfl⟩
              have hx : X = ⟨la.toArray⟩ := by
                rw [hX, hla, HT.out.1]
                apply ByteArray.ext
                apply Array.toList_inj.1
                rw [ByteArray.data_extract, Array.toList_extract, List.extract_eq_take_drop]
              have hX2 : t.extract n m = X := hX.symm
              have hXs : X.size ≤ 4194304 := by
                rw [hx]
                show la.toArray.size ≤ _
                rw [List.size_toArray, hla, List.length_take, List.length_drop]
                have := HT.out.2.1
                have := HT.out.2.2
                omega
              have HX := Lib.hid (And.intro hx hXs)
              have HL10 := Lib.hid (show (10 : UInt8) ∉ la by rw [hla]; exact HM.out.2.2)
              have HFL := Lib.hid (fields_any wr X (by omega))
              clear hx hXs hX hla
              go_wp2_with fail
              (with_reducible refine HFL.out.mono ?_)
              rintro e w3 ⟨fv, rfl, hs3, f3⟩
              obtain ⟨F, hF⟩ : ∃ F, F = fieldsB X := ⟨_, rfl⟩
              have hFp : 0 < F.length := by rw [hF]; exact fieldsB_pos X
              rw [← hF] at hs3
              obtain ⟨gf, cF, rfl, hcF, hcl⟩ := slot_of hs3 hFp
              have HCL := Lib.hid (show (∀ i s, F[i]? = some s → w3.cell? ⟨gf, i, none⟩ = some (.string s)) ∧ (∀ s ∈ F, s.size ≤ 4294967296) ∧ F.length ≤ 4294967296 ∧ F.length ≤ cF from ⟨hcl, fun s hs => by rw [hF] at hs; have := fieldsB_size hs; have := HX.out.2; omega, by rw [hF]; have := fieldsB_len X; have := HX.out.2; omega, hcF⟩)
              have HFX := Lib.hid (show F = lineB la ∧ (32 : UInt8) ∉ (fld F 0).data.toList ∧ 0 < F.length from ⟨by rw [hF, HX.out.1]; rfl, fieldsB_blank (s := X) (by rw [← hF]; unfold fld; rw [List.getD_eq_getElem?_getD, List.getElem?_eq_getElem hFp]; exact List.getElem_mem hFp), hFp⟩)
              have H3 := Lib.hid (HI.out.grow f3)
              obtain ⟨cfg, v, C, hS⟩ := H3.out.st
              have HS := Lib.hid hS
              obtain ⟨s0, hs0⟩ : ∃ s0, s0 = fld F 0 := ⟨_, rfl⟩
              have HS0 := Lib.hid hs0
              have c0 : w3.cell? ⟨gf, 0, none⟩ = some (.string s0) := hcl 0 _ (by rw [hs0]; unfold fld; rw [List.getD_eq_getElem?_getD, List.getElem?_eq_getElem hFp, Option.getD_some])
              have kF0 : (0 : Int) < (F.length : Int) := by omega
              have kF1 : (F.length : Int) ≤ (cF : Int) := by omega
              clear hs3 f3 hF hFp hcF hcl hS hs0
              go_upto_block 4 with fail
              go_cut [6, 10, 11, 12] from 19 to 112 (fun s6 s10 s11 s12 wx => ∃ (fl : Flt) (en : Bool), s6 = .bool en ∧ s10 = .int .i64 (fltN fl) ∧ s11 = .int .i64 (fltC fl) ∧ RpM w n0 rb fb sb GR T (m + 1) k fl en wx)
              case first =>
                by_cases hk1 : k = 1
                · have e0 : ((k : Int) == 1) = true := by rw [hk1]; rfl
                  have HK := Lib.hid (show ¬ (2 < k ∧ fld (lineB la) 0 = endB) ∧ lineF k (lineB la) = oneF F ∧ nextCfg k (lineB la) cfg = cfg ∧ nextSt k (lineB la) (C.map Prod.fst) = C.map Prod.fst from by
                    subst hk1
                    exact ⟨fun q => by omega, by rw [← HFX.out.1]; rfl, rfl, rfl⟩)
                  clear hk1
                  by_cases hh : s0 = headB
                  · have e1 : (s0.toList == [112, 97, 100, 100, 111, 99, 107]) = true := by rw [hh]; kernel_rfl
                    have HWR := Lib.hid (wrong_fields w3 gf cF 1 F ⟨#[49]⟩ HCL.out.1 HCL.out.2.1 (by omega) (by decide) HCL.out.2.2.1 HCL.out.2.2.2)
                    replace HWR := Lib.hid (show Calls Tryz.prog 16 #[.slice (some ⟨gf, 0, none⟩) F.length cF, .int .i64 1, .string ⟨#[49]⟩] w3 _ from HWR.out)
                    obtain ⟨fl, hfl⟩ : ∃ fl, fl = wrongG F 1 [49] := ⟨_, rfl⟩
                    rw [show ((⟨#[49]⟩ : ByteArray).data.toList) = [49] from rfl, ← hfl] at HWR
                    have HFL2 := Lib.hid (show lineF k (lineB la) = fl from by rw [HK.out.2.1, oneF_is, if_pos (by rw [← HS0.out]; exact hh), hfl])
                    clear hh hfl
                    go_wp2_with fail
                    (with_reducible refine HWR.out.mono ?_)
                    rintro e w5 ⟨rfl, f5⟩
                    have H5 := Lib.hid (And.intro (H3.out.grow f5) (HS.out.grow f5))
                    clear f5
                    go_wp2_with fail
                    go_meet
                    case rel => exact ⟨fl, false, rfl, rfl, rfl, H5.out.1.rb, H5.out.1.fb, fun q hq => H5.out.2.go.bad HSP.out HL10.out HK.out.1 (by rw [HFL2.out]; exact hq), fun hq => ⟨cfg, v, C, H5.out.2.len, H5.out.2.sb, H5.out.2.st, H5.out.2.si, by have := H5.out.2.ct; omega, by have := H5.out.2.go.good HSP.out HL10.out HK.out.1 (by rw [HFL2.out]; exact hq); rw [HK.out.2.2.1, HK.out.2.2.2] at this; exact this⟩, H5.out.1.fr⟩
                  · have e1 : (s0.toList == [112, 97, 100, 100, 111, 99, 107]) = false := by rw [show ([112, 97, 100, 100, 111, 99, 107] : List UInt8) = headB.toList by kernel_rfl]; exact beq_not hh
                    have HFL2 := Lib.hid (show lineF k (lineB la) = some (0, 280) from by rw [HK.out.2.1, oneF_is, if_neg (by rw [← HS0.out]; exact hh)])
                    clear hh
                    go_wp2_with fail
                    go_meet
                    case rel => exact ⟨some (0, 280), false, rfl, rfl, rfl, H3.out.rb, H3.out.fb, fun q hq => HS.out.go.bad HSP.out HL10.out HK.out.1 (by rw [HFL2.out]; exact hq), fun hq => (by cases hq), H3.out.fr⟩
                · have e0 : ((k : Int) == 1) = false := by rw [beq_eq_false_iff_ne]; omega
                  by_cases hk2 : k = 2
                  · have e0' : ((k : Int) == 2) = true := by rw [hk2]; rfl
                    have HK := Lib.hid (show ¬ (2 < k ∧ fld (lineB la) 0 = endB) ∧ lineF k (lineB la) = cfgF F ∧ nextCfg k (lineB la) cfg = cfgN F ∧ nextSt k (lineB la) (C.map Prod.fst) = C.map Prod.fst from by
                      subst hk2
                      exact ⟨fun q => by omega, by rw [← HFX.out.1]; rfl, by rw [← HFX.out.1]; rfl, rfl⟩)
                    clear hk1 hk2
                    by_cases hh : s0 = sizeB
                    · have e1 : (s0.toList == [99, 111, 110, 102, 105, 103]) = true := by rw [hh]; kernel_rfl
                      have HWR := Lib.hid (wrong_fields w3 gf cF 1 F ⟨#[78, 78, 78, 78, 78, 78, 78, 78, 78, 78, 78]⟩ HCL.out.1 HCL.out.2.1 (by omega) (by decide) HCL.out.2.2.1 HCL.out.2.2.2)
                      replace HWR := Lib.hid (show Calls Tryz.prog 16 #[.slice (some ⟨gf, 0, none⟩) F.length cF, .int .i64 1, .string ⟨#[78, 78, 78, 78, 78, 78, 78, 78, 78, 78, 78]⟩] w3 _ from HWR.out)
                      obtain ⟨fl, hfl⟩ : ∃ fl, fl = wrongG F 1 [78, 78, 78, 78, 78, 78, 78, 78, 78, 78, 78] := ⟨_, rfl⟩
                      rw [show ((⟨#[78, 78, 78, 78, 78, 78, 78, 78, 78, 78, 78]⟩ : ByteArray).data.toList) = [78, 78, 78, 78, 78, 78, 78, 78, 78, 78, 78] from rfl, ← hfl] at HWR
                      have HFL2 := Lib.hid (show lineF k (lineB la) = fl from by rw [HK.out.2.1, cfgF_is, if_pos (by rw [← HS0.out]; exact hh), hfl])
                      clear hh hfl
                      go_wp2_with fail
                      (with_reducible refine HWR.out.mono ?_)
                      rintro e w5 ⟨rfl, f5⟩
                      have H5 := Lib.hid (And.intro (H3.out.grow f5) (And.intro (HS.out.grow f5) f5))
                      clear f5
                      by_cases hz : fltC fl = 0
                      · have e2 : (fltC fl == 0) = true := by rw [hz]; rfl
                        have hn : fl = none := flt_none hz (fun q hq => (HS.out.go.bad HSP.out HL10.out HK.out.1 (by rw [HFL2.out]; exact hq)).2)
                        have HCN := Lib.hid (rcfg_any w5 gf cF F (fun i s hi => (H5.out.2.2.cell (World.block_lt_of_cell? w3 _ (HCL.out.1 i s hi)) (by simp)).trans (HCL.out.1 i s hi)) HCL.out.2.1 HCL.out.2.2.1 HCL.out.2.2.2 (nums_none (by rw [← HK.out.2.1, HFL2.out]; exact hn)))
                        have HN := Lib.hid hn
                        have hcl : (cfgN F).length = 11 := by simp [cfgN]
                        obtain ⟨cs, hcs⟩ : ∃ cs, cs = (ints (cfgN F)).toArray := ⟨_, rfl⟩
                        rw [← hcs] at HCN
                        have HCS := Lib.hid (And.intro hcs hcl)
                        have zc : cfOk cs = true := by rw [hcs]; exact cfOk_ints hcl
                        clear hz hn hcs hcl
                        go_wp2_with fail
                        (with_reducible refine HCN.out.mono ?_)
                        rintro e w6 ⟨rfl, f6⟩
                        have H6 := Lib.hid (And.intro (H5.out.1.grow f6) (H5.out.2.1.grow f6))
                        clear f6
                        have q1 := can11_of H6.out.2.sb (by rw [scrC_size H6.out.2.len]; decide)
                        obtain ⟨w7, hw7⟩ : ∃ w7, layA w6 sb cs = w7 := ⟨_, rfl⟩
                        have HW7 := Lib.hid hw7
                        have HM7 := Lib.hid (show RpM w n0 rb fb sb GR T (m + 1) k fl false w7 from by
                          have hb7 : Blk w7 sb (scrC (cfgN F) v) 26 := by rw [← hw7, HCS.out.1]; exact Blk.layCf H6.out.2.sb H6.out.2.len HCS.out.2
                          have g7 : Fr [sb] w6 w7 := by rw [← hw7]; exact (Fr.refl _ _).layA _ _ (.inl (by simp))
                          refine ⟨g7.blk H6.out.1.rb (by have := HNB.out.2.2.2.2.2.1; simpa using this), g7.blk H6.out.1.fb (by have := HNB.out.2.2.2.2.2.2; simpa using this), fun q hq => (by rw [HN.out] at hq; cases hq), fun hq => ⟨cfgN F, v, C, HCS.out.2, hb7, H6.out.2.st.frB g7 H6.out.2.sb, H6.out.2.si, by have := H6.out.2.ct; omega, ?_⟩, H6.out.1.fr.trans g7 (fun x hx => .inr (by have := HNB.out.2.2.2.2.1; simp at hx; omega))⟩
                          have := HS.out.go.good HSP.out HL10.out HK.out.1 (by rw [HFL2.out]; exact hq)
                          rw [HK.out.2.2.1, HK.out.2.2.2] at this
                          exact this)
                        clear hw7
                        go_wp2_with fail
                        rw [HW7.out]
                        go_meet
                        case rel => exact ⟨fl, false, rfl, rfl, rfl, HM7.out⟩
                      · have e2 : (fltC fl == 0) = false := by rw [beq_eq_false_iff_ne]; exact hz
                        have HN := Lib.hid (show fl ≠ none from fun q => hz (by rw [q]; rfl))
                        clear hz
                        go_wp2_with fail
                        go_meet
                        case rel => exact ⟨fl, false, rfl, rfl, rfl, H5.out.1.rb, H5.out.1.fb, fun q hq => HS.out.go.bad HSP.out HL10.out HK.out.1 (by rw [HFL2.out]; exact hq), fun hq => absurd hq HN.out, H5.out.1.fr⟩
                    · have e1 : (s0.toList == [99, 111, 110, 102, 105, 103]) = false := by rw [show ([99, 111, 110, 102, 105, 103] : List UInt8) = sizeB.toList by kernel_rfl]; exact beq_not hh
                      have HFL2 := Lib.hid (show lineF k (lineB la) = some (0, 280) from by rw [HK.out.2.1, cfgF_is, if_neg (by rw [← HS0.out]; exact hh)])
                      clear hh
                      have e2 : ((280 : Int) == 0) = false := rfl
                      go_wp2_with fail
                      go_meet
                      case rel => exact ⟨some (0, 280), false, rfl, rfl, rfl, H3.out.rb, H3.out.fb, fun q hq => HS.out.go.bad HSP.out HL10.out HK.out.1 (by rw [HFL2.out]; exact hq), fun hq => (by cases hq), H3.out.fr⟩
                  · have e0' : ((k : Int) == 2) = false := by rw [beq_eq_false_iff_ne]; omega
                    have HK2 := Lib.hid (show 2 < k ∧ lineF k (lineB la) = stepF F ∧ nextCfg k (lineB la) cfg = cfg ∧ nextSt k (lineB la) (C.map Prod.fst) = C.map Prod.fst ++ [stepS F] from by
                      have := H3.out.nk.1
                      have h2 : 2 < k := by omega
                      refine ⟨h2, ?_, ?_, ?_⟩
                      · unfold lineF; rw [if_neg (by omega), if_neg (by omega), HFX.out.1]
                      · unfold nextCfg; rw [if_neg (by omega)]
                      · unfold nextSt; rw [if_pos h2, HFX.out.1])
                    clear hk1 hk2
                    by_cases hh : s0 = endB
                    · have e1 : (s0.toList == [101, 110, 100]) = true := by rw [hh]; kernel_rfl
                      have HWR := Lib.hid (wrong_fields w3 gf cF 1 F ⟨#[]⟩ HCL.out.1 HCL.out.2.1 (by omega) (by decide) HCL.out.2.2.1 HCL.out.2.2.2)
                      replace HWR := Lib.hid (show Calls Tryz.prog 16 #[.slice (some ⟨gf, 0, none⟩) F.length cF, .int .i64 1, .string ⟨#[]⟩] w3 _ from HWR.out)
                      obtain ⟨fl, hfl⟩ : ∃ fl, fl = wrongG F 1 [] := ⟨_, rfl⟩
                      rw [show ((⟨#[]⟩ : ByteArray).data.toList) = [] from rfl, ← hfl] at HWR
                      rw [show wrongG F 1 [] = overF F 1 from rfl] at hfl
                      have HST := Lib.hid (HS.out.go.stop HSP.out HL10.out ⟨HK2.out.1, by rw [← HFX.out.1, ← HS0.out]; exact hh⟩)
                      have HFL2 := Lib.hid (show overF (lineB la) 1 = fl from by rw [← HFX.out.1, hfl])
                      clear hh hfl
                      go_wp2_with fail
                      (with_reducible refine HWR.out.mono ?_)
                      rintro e w5 ⟨rfl, f5⟩
                      have H5 := Lib.hid (And.intro (H3.out.grow f5) (HS.out.grow f5))
                      clear f5
                      go_wp2_with fail
                      go_meet
                      case rel => exact ⟨fl, true, rfl, rfl, rfl, H5.out.1.rb, H5.out.1.fb, fun q hq => HST.out.1 q (by rw [HFL2.out]; exact hq), fun hq => ⟨cfg, v, C, H5.out.2.len, H5.out.2.sb, H5.out.2.st, H5.out.2.si, by have := H5.out.2.ct; omega, HST.out.2 (by rw [HFL2.out]; exact hq)⟩, H5.out.1.fr⟩
                    · have e1 : (s0.toList == [101, 110, 100]) = false := by rw [show ([101, 110, 100] : List UInt8) = endB.toList by kernel_rfl]; exact beq_not hh
                      have HK := Lib.hid (show ¬ (2 < k ∧ fld (lineB la) 0 = endB) from fun q => hh (by rw [HS0.out, HFX.out.1]; exact q.2))
                      clear hh
                      obtain ⟨xb, hxb⟩ : ∃ xb, xb = w3.heap.size := ⟨_, rfl⟩
                      obtain ⟨w4, hw4⟩ : ∃ w4, w3.alloc (.cells #[.int .u8 0, .int .i64 0, .int .i64 0, .int .i64 0, .slice none 0 0] 64) = w4 := ⟨_, rfl⟩
                      have f4 : Fr [] w3 w4 := by rw [← hw4]; exact (Fr.refl _ _).alloc _
                      have H4 := Lib.hid (show RpI w n0 rb fb sb GR T n k false w4 ∧ RpS w4 n0 sb GR T n k false cfg v C ∧ Blk w4 xb #[.int .u8 0, .int .i64 0, .int .i64 0, .int .i64 0, .slice none 0 0] 64 from ⟨H3.out.grow f4, HS.out.grow f4, by rw [← hw4]; exact Blk.new_at hxb _ _⟩)
                      have HXL := Lib.hid (show rb < xb ∧ fb < xb ∧ sb < xb ∧ n0 ≤ xb from by
                        have := H3.out.rb.lt; have := H3.out.fb.lt; have := HS.out.sb.lt; have := H3.out.fr.size; have := HNB.out.2.2.1
                        omega)
                      have HSTP := Lib.hid (refstep_any w4 gf cF F (fun i s hi => (f4.cell (World.block_lt_of_cell? w3 _ (HCL.out.1 i s hi)) (by simp)).trans (HCL.out.1 i s hi)) HCL.out.2.1 HCL.out.2.2.1 HCL.out.2.2.2 HFX.out.2.2 HFX.out.2.1)
                      have HW4 := Lib.hid (And.intro hw4 hxb)
                      clear hxb hw4 f4
                      go_upto_region 17 with fail
                      rw [HW4.out.1, ← HW4.out.2]
                      clear c0
                      go_wp2_with fail
                      (with_reducible refine HSTP.out.mono ?_)
                      rintro e w5 hq5
                      obtain ⟨p5, c5, rfl, hb5, f5⟩ := hq5.uni
                      obtain ⟨r, hr⟩ : ∃ r, r = readF F := ⟨_, rfl⟩
                      obtain ⟨fl, hfl⟩ : ∃ fl, fl = stepF F := ⟨_, rfl⟩
                      rw [← hr] at hb5 ⊢
                      rw [← hfl]
                      obtain ⟨n5, hn5⟩ : ∃ n5, n5 = r.by'.length := ⟨_, rfl⟩
                      rw [← hn5] at hb5 ⊢
                      have hx5 := f5.blk H4.out.2.2 (by simp)
                      have q5 := hx5.can5
                      have o1 : (Value.int .u8 r.kd).oneCell' = true := rfl
                      have o2 : ∀ z : Int, (Value.int .i64 z).oneCell' = true := fun _ => rfl
                      have o3 : (Value.slice p5 n5 c5).oneCell' = true := rfl
                      obtain ⟨w6, hw6⟩ : ∃ w6, layS w5 xb (.int .u8 r.kd) (.int .i64 r.la) (.int .i64 r.sl) (.int .i64 r.pl) (.slice p5 n5 c5) = w6 := ⟨_, rfl⟩
                      have hx6 : Blk w6 xb #[.int .u8 r.kd, .int .i64 r.la, .int .i64 r.sl, .int .i64 r.pl, .slice p5 n5 c5] 64 := by rw [← hw6]; exact hx5.lay _ _ _ _ _
                      have f6 : Fr [xb] w5 w6 := by rw [← hw6]; exact (Fr.refl _ _).lay _ _ _ _ _ _ (.inl (by simp))
                      have hS5 := H4.out.2.1.grow f5
                      have hI5 := H4.out.1.grow f5
                      have hst6 : StepsV w6 n0 v C := ⟨own_fr hS5.st.own f6 (fun g hg hm => by
                          have := own_lt H4.out.2.1.st.own hg
                          have h7 := own_lt HS.out.st.own hg
                          have h8 := HW4.out.2
                          simp at hm; omega), hS5.st.blk, fun x hx => (hS5.st.byt x hx).fr' f6 (fun g hg hm => (hS5.st.byt x hx).ne hx5 (by decide) g hg (by simpa using hm))⟩
                      have HSB := Lib.hid (show n0 ≤ w5.heap.size from by have := HXL.out.2.2.2; have := hx5.lt; omega)
                      have hby6 : BytV w6 n0 (.slice p5 n5 c5) r.by' := by
                        have h1 : BytV w5 n0 (.slice p5 n5 c5) r.by' := ⟨by have := hb5.1; rw [hn5] at this ⊢; exact this, fun g hg => Nat.le_trans (by have := HXL.out.2.2.2; have := H4.out.2.2.lt; omega) (hb5.2 g hg)⟩
                        exact h1.fr' f6 (fun g hg hm => h1.ne hx5 (by decide) g hg (by simpa using hm))
                      have hsb6 : Blk w6 sb (scrC cfg v) 26 := f6.blk hS5.sb (by have := HXL.out.2.2.1; simp; omega)
                      have H6 := Lib.hid (show Blk w6 xb #[.int .u8 r.kd, .int .i64 r.la, .int .i64 r.sl, .int .i64 r.pl, .slice p5 n5 c5] 64 ∧ Blk w6 sb (scrC cfg v) 26 ∧ StepsV w6 n0 v C ∧ BytV w6 n0 (.slice p5 n5 c5) r.by' ∧ Blk w6 rb zeroScr 26 ∧ Blk w6 fb #[.int .i64 0, .int .i64 0, .int .i64 0] 33 ∧ Fr [] w w6 ∧ n0 ≤ w6.heap.size from ⟨hx6, hsb6, hst6, hby6, f6.blk hI5.rb (by have := HXL.out.1; simp; omega), f6.blk hI5.fb (by have := HXL.out.2.1; simp; omega), hI5.fr.trans f6 (fun x hx => .inr (by have := HXL.out.2.2.2; have := HNB.out.2.2.1; simp at hx; omega)), Nat.le_trans HSB.out f6.size⟩)
                      have HRF := Lib.hid (And.intro hr (And.intro hfl hn5))
                      have HW6 := Lib.hid hw6
                      clear hq5 hb5 f5 hr hfl hn5 hx5 hw6 hx6 f6 hS5 hI5 hst6 hby6 hsb6
                      go_upto_region 18 with fail
                      rw [HW6.out]
                      clear q5 o1 o2 o3
                      have q6 := H6.out.1.st
                      obtain ⟨pv, cv, rfl⟩ := own_form H6.out.2.2.1.own
                      have c11 := H6.out.2.1.at 11 (scrC_last HS.out.len)
                      have HA := Lib.hid (show (w6.alloc (.cells #[.int .u8 r.kd, .int .i64 r.la, .int .i64 r.sl, .int .i64 r.pl, .slice p5 n5 c5] 64)).ownsRow 0 64 5 (.slice pv C.length cv) C.length (rowC C) from own_fr H6.out.2.2.1.own ((Fr.refl [] w6).alloc _) (by simp))
                      have HNW := Lib.hid (new_list w6 [.int .u8 r.kd, .int .i64 r.la, .int .i64 r.sl, .int .i64 r.pl, .slice p5 n5 c5] 64 _ rfl)
                      have HCT := Lib.hid (show C.length ≤ 4194306 from by have := HS.out.ct; have := H3.out.nk; have := HT.out.2; omega)
                      go_wp2_with (at_builtin; go_must (refine wpList_app _ rfl _ _ 24 rfl 64 zeroStep 5 56 Tryz.underlying24 infoSt rfl (by decide) (.slice pv C.length cv) C.length (rowC C) rfl HA.out ⟨w6.heap.size, 0, none⟩ 1 1 [.int .u8 r.kd, .int .i64 r.la, .int .i64 r.sl, .int .i64 r.pl, .slice p5 n5 c5] rfl rfl HNW.out (by simp [Value.oneCell']) (by have := HCT.out; unfold maxLen; omega) (by have := HCT.out; omega) ?_); intro v7 w7 happ; obtain ⟨pv7, cv7, rfl⟩ := own_form happ.own; have hstp := RpS.step (sb := sb) (n0 := n0) (s := r) (bv := .slice p5 n5 c5) HS.out.len (((Fr.refl [] w6).alloc (.cells #[.int .u8 r.kd, .int .i64 r.la, .int .i64 r.sl, .int .i64 r.pl, .slice p5 n5 c5] 64)).blk H6.out.2.1 (by simp)) (H6.out.2.2.1.fr ((Fr.refl [] w6).alloc _)) (H6.out.2.2.2.1.fr' ((Fr.refl [] w6).alloc _) (by simp)) (by have := H6.out.2.2.2.2.2.2.2; simp; omega) happ; have c11' := hstp.1.at 11 (scrC_last HS.out.len); have g11 := hstp.1.free 11; have HAP := Lib.hid (And.intro happ hstp); clear happ hstp)
                      have HM8 := Lib.hid (show RpM w n0 rb fb sb GR T (m + 1) k fl false (w7.setCell ⟨sb, 11, none⟩ (.slice pv7 (C.length + 1) cv7)) from by
                        have fA := HAP.out.1.fr
                        have hfr7 : Fr [] w w7 := (H6.out.2.2.2.2.2.2.1.alloc (.cells #[.int .u8 r.kd, .int .i64 r.la, .int .i64 r.sl, .int .i64 r.pl, .slice p5 n5 c5] 64)).trans fA (fun x hx => .inr (by have := H6.out.2.2.1.blk x (by simpa using hx); have := HNB.out.2.2.1; omega))
                        have hnb : ∀ {b : Nat} {cs : Array Value} {e : TypeId}, Blk w6 b cs e → 64 ≠ e → b ≠ sb → Blk (w7.setCell ⟨sb, 11, none⟩ (.slice pv7 (C.length + 1) cv7)) b cs e := fun {b cs e} hb he hn => by
                          have h1 := ((Fr.refl [] w6).alloc (.cells #[.int .u8 r.kd, .int .i64 r.la, .int .i64 r.sl, .int .i64 r.pl, .slice p5 n5 c5] 64)).blk hb (by simp)
                          exact (fA.blk h1 (own_notin HA.out h1 he)).other _ _ hn
                        refine ⟨hnb H6.out.2.2.2.2.1 (by decide) HNB.out.2.2.2.2.2.1, hnb H6.out.2.2.2.2.2.1 (by decide) HNB.out.2.2.2.2.2.2, fun q hq => HS.out.go.bad HSP.out HL10.out HK.out (by rw [HK2.out.2.1, ← HRF.out.2.1]; exact hq), fun hq => ?_, hfr7.setCell _ _ (.inr HNB.out.2.2.2.2.1)⟩
                        have hsf : stepF F = none := by rw [← HRF.out.2.1]; exact hq
                        have hre : r = stepS F := by rw [HRF.out.1]; unfold readF; rw [hsf]; rfl
                        have hsi : StI (stepS F) := (prints_back HFX.out.2.2 hsf).2.2
                        refine ⟨cfg, _, C ++ [(r, .slice p5 n5 c5)], HS.out.len, HAP.out.2.2.1, HAP.out.2.2.2, fun x hx => ?_, by rw [List.length_append, List.length_singleton]; have := HS.out.ct; omega, ?_⟩
                        · rcases List.mem_append.1 hx with hx | hx
                          · exact HS.out.si x hx
                          · have : x = (r, .slice p5 n5 c5) := by simpa using hx
                            rw [this, hre]; exact hsi
                        · have := HS.out.go.good HSP.out HL10.out HK.out (by rw [HK2.out.2.1]; exact hsf)
                          rw [HK2.out.2.2.1, HK2.out.2.2.2] at this
                          rw [List.map_append]
                          show Leads GR T (m + 1) (k + 1) false cfg (C.map Prod.fst ++ [r])
                          rw [hre]
                          exact this)
                      go_meet
                      case rel => exact ⟨fl, false, rfl, rfl, rfl, HM8.out⟩
              case rest =>
                obtain ⟨fl, en', rfl, rfl, rfl, hM⟩ := hcut
                obtain ⟨wc0, hwc0⟩ : ∃ x : World, x = wc := ⟨_, rfl⟩
                rw [← hwc0] at hM ⊢
                clear hwc0
                have HMM := Lib.hid hM
                clear hM
                cases fl with
                | some q =>
                  obtain ⟨qa, qc⟩ := q
                  have HQ := Lib.hid (HMM.out.bad (qa, qc) rfl)
                  have e4 : (qc != 0) = true := by rw [bne_iff_ne]; exact HQ.out.2
                  rw [show fltN (some (qa, qc)) = qa from rfl, show fltC (some (qa, qc)) = qc from rfl]
                  obtain ⟨b1, b2, b3, b4⟩ := bad_boxes (a := .int .i64 k) (b := .int .i64 qa) (c := .int .i64 qc) HMM.out.rb HMM.out.fb HMM.out.fr HNB.out.1 HNB.out.2.1
                  have q1 := (HMM.out.rb).can12 rfl
                  have zo := scrOk_zero
                  have q2 : can3 (layA wc0 rb #[.int .i64 0, .int .i64 0, .int .i64 0, .int .i64 0, .int .i64 0, .int .i64 0, .int .i64 0, .int .i64 0, .int .i64 0, .int .i64 0, .int .i64 0, .slice none 0 0]) fb = true := b1
                  have fo : ftOk #[.int .i64 k, .int .i64 qa, .int .i64 qc] = true := ftOk3 _ _ _
                  obtain ⟨wz, hwz⟩ : ∃ wz, layA (layA wc0 rb #[.int .i64 0, .int .i64 0, .int .i64 0, .int .i64 0, .int .i64 0, .int .i64 0, .int .i64 0, .int .i64 0, .int .i64 0, .int .i64 0, .int .i64 0, .slice none 0 0]) fb #[.int .i64 k, .int .i64 qa, .int .i64 qc] = wz := ⟨_, rfl⟩
                  have HWZ := Lib.hid hwz
                  have HZ := Lib.hid (show Blk wz rb zeroScr 26 ∧ Blk wz fb #[.int .i64 k, .int .i64 qa, .int .i64 qc] 33 ∧ Fr [] w wz from by rw [← hwz]; exact ⟨b2, b3, b4⟩)
                  clear b1 b2 b3 b4 hwz
                  go_wp2
                  rw [HWZ.out]
                  exact bodyPost_ret (results_two rfl _ _ rb fb _ _ _ _ rfl rfl (HZ.out.1.scr rfl) HZ.out.2.1) rfl (RParQ.bad (l := k) (a := qa) (by rw [HR.out, HQ.out.1]; rfl) HZ.out.2.2)
                | none =>
                  have HG2 := Lib.hid (HMM.out.st rfl)
                  rw [show fltN none = 0 from rfl, show fltC none = 0 from rfl]
                  go_wp2
                  exact ⟨⟨m + 1, k + 1, en', rfl, rfl, rfl, ⟨by omega, by have := HI.out.nk; have := HM.out.1; omega, by have := HT.out.2.1; have := HML.out; omega⟩, HMM.out.rb, HMM.out.fb, HG2.out, HMM.out.fr⟩, by have := HM.out.1; have := HML.out; show t.size - ((m : Int) + 1).toNat < t.size - ((n : Nat) : Int).toNat; omega⟩
          · have e2 : ((a.toNat : Int) != 10) = true := by
              rw [bne_iff_ne]
              intro q
              exact h10 (UInt8.toNat_inj.1 (by rw [show (10 : UInt8).toNat = 10 from rfl]; omega))
            have HNX := Lib.hid (show (10 : UInt8) ∉ (T.drop n).take (m + 1 - n) from by
              have hl : m - n < (T.drop n).length := by rw [List.length_drop]; have := HT.out.2.1; have := HM.out.1; omega
              rw [show m + 1 - n = (m - n) + 1 by have := HM.out.1; omega, List.take_succ_eq_append_getElem hl]
              intro q
              rcases List.mem_append.1 q with q | q
              · exact HM.out.2.2 q
              · have q2 : (10 : UInt8) = (T.drop n)[m - n] := by simpa using q
                rw [List.getElem_drop] at q2
                have e : n + (m - n) = m := by have := HM.out.1; omega
                simp only [e] at q2
                exact h10 (by rw [← hTm, ← q2]))
            clear h10 hTm
            go_wp2
            exact ⟨⟨m + 1, rfl, by have := HM.out.1; omega, HML.out, HNX.out, trivial⟩, by have := HML.out; show t.size - ((m : Int) + 1).toNat < t.size - ((m : Nat) : Int).toNat; omega⟩
        · have hmt : m = t.size := by have := HM.out.2.1; omega
          have d2 : ¬ ((m : Int) < (t.size : Int)) := by omega
          have d3 : ((m : Int) == (t.size : Int)) = true := by rw [hmt]; exact beq_self_eq_true _
          have HGE := Lib.hid (show GR = .error (k, 0, 283) from by
            obtain ⟨cfg, v, C, hS⟩ := HI.out.st
            have hT := HT.out.2.1
            have hd : T.drop n ≠ [] := by
              intro q
              have h1 := congrArg List.length q
              rw [List.length_drop] at h1
              have h2 := HLT.out
              simp only [List.length_nil] at h1
              omega
            cases en with
            | true => rw [hS.go.2 rfl, if_neg hd]
            | false =>
              refine hS.go.none ?_
              have := HM.out.2.2
              rw [hmt, List.take_of_length_le (by rw [List.length_drop]; omega)] at this
              exact this)
          clear hml hmt
          obtain ⟨b1, b2, b3, b4⟩ := bad_boxes (a := .int .i64 k) (b := .int .i64 0) (c := .int .i64 283) HI.out.rb HI.out.fb HI.out.fr HNB.out.1 HNB.out.2.1
          have q1 := (HI.out.rb).can12 rfl
          have zo := scrOk_zero
          have q2 : can3 (layA wr rb #[.int .i64 0, .int .i64 0, .int .i64 0, .int .i64 0, .int .i64 0, .int .i64 0, .int .i64 0, .int .i64 0, .int .i64 0, .int .i64 0, .int .i64 0, .slice none 0 0]) fb = true := b1
          have fo : ftOk #[.int .i64 k, .int .i64 0, .int .i64 283] = true := ftOk3 _ _ _
          obtain ⟨wz, hwz⟩ : ∃ wz, layA (layA wr rb #[.int .i64 0, .int .i64 0, .int .i64 0, .int .i64 0, .int .i64 0, .int .i64 0, .int .i64 0, .int .i64 0, .int .i64 0, .int .i64 0, .int .i64 0, .slice none 0 0]) fb #[.int .i64 k, .int .i64 0, .int .i64 283] = wz := ⟨_, rfl⟩
          have HWZ := Lib.hid hwz
          have HZ := Lib.hid (show Blk wz rb zeroScr 26 ∧ Blk wz fb #[.int .i64 k, .int .i64 0, .int .i64 283] 33 ∧ Fr [] w wz from by rw [← hwz]; exact ⟨b2, b3, b4⟩)
          clear b1 b2 b3 b4 hwz
          go_wp2
          rw [HWZ.out]
          exact bodyPost_ret (results_two rfl _ _ rb fb _ _ _ _ rfl rfl (HZ.out.1.scr rfl) HZ.out.2.1) rfl (RParQ.bad (l := k) (a := 0) (by rw [HR.out, HGE.out]; rfl) HZ.out.2.2)
    · have d1 : ¬ ((n : Int) < (t.size : Int)) := by omega
      have HNZ := Lib.hid (show T.drop n = [] from List.drop_eq_nil_of_le (by have := HT.out.2.1; omega))
      clear hlt
      obtain ⟨cfg, v, C, hS⟩ := HI.out.st
      have HS := Lib.hid hS
      clear hS
      cases en with
      | false =>
        have HGE := Lib.hid (show GR = .error (k, 0, 283) from HS.out.go.none (by rw [HNZ.out]; simp))
        obtain ⟨b1, b2, b3, b4⟩ := bad_boxes (a := .int .i64 k) (b := .int .i64 0) (c := .int .i64 283) HI.out.rb HI.out.fb HI.out.fr HNB.out.1 HNB.out.2.1
        have q1 := (HI.out.rb).can12 rfl
        have zo := scrOk_zero
        have q2 : can3 (layA wi rb #[.int .i64 0, .int .i64 0, .int .i64 0, .int .i64 0, .int .i64 0, .int .i64 0, .int .i64 0, .int .i64 0, .int .i64 0, .int .i64 0, .int .i64 0, .slice none 0 0]) fb = true := b1
        have fo : ftOk #[.int .i64 k, .int .i64 0, .int .i64 283] = true := ftOk3 _ _ _
        obtain ⟨wz, hwz⟩ : ∃ wz, layA (layA wi rb #[.int .i64 0, .int .i64 0, .int .i64 0, .int .i64 0, .int .i64 0, .int .i64 0, .int .i64 0, .int .i64 0, .int .i64 0, .int .i64 0, .int .i64 0, .slice none 0 0]) fb #[.int .i64 k, .int .i64 0, .int .i64 283] = wz := ⟨_, rfl⟩
        have HWZ := Lib.hid hwz
        have HZ := Lib.hid (show Blk wz rb zeroScr 26 ∧ Blk wz fb #[.int .i64 k, .int .i64 0, .int .i64 283] 33 ∧ Fr [] w wz from by rw [← hwz]; exact ⟨b2, b3, b4⟩)
        clear b1 b2 b3 b4 hwz
        go_wp2
        rw [HWZ.out]
        exact bodyPost_ret (results_two rfl _ _ rb fb _ _ _ _ rfl rfl (HZ.out.1.scr rfl) HZ.out.2.1) rfl (RParQ.bad (l := k) (a := 0) (by rw [HR.out, HGE.out]; rfl) HZ.out.2.2)
      | true =>
        have HGE := Lib.hid (show GR = .ok (cfg, C.map Prod.fst) from by rw [HS.out.go.2 rfl, if_pos HNZ.out])
        obtain ⟨v0, v1, v2, v3, v4, v5, v6, v7, v8, v9, v10, hcf⟩ := eleven HS.out.len
        subst hcf
        obtain ⟨p, c, rfl⟩ := own_form HS.out.st.own
        obtain ⟨E, hE⟩ : ∃ E, E = checkE [v0, v1, v2, v3, v4, v5, v6, v7, v8, v9, v10] (C.map Prod.fst) := ⟨_, rfl⟩
        have q5 : scr? wi sb = some (.agg #[.int .i64 v0, .int .i64 v1, .int .i64 v2, .int .i64 v3, .int .i64 v4, .int .i64 v5, .int .i64 v6, .int .i64 v7, .int .i64 v8, .int .i64 v9, .int .i64 v10, .slice p C.length c]) := HS.out.sb.scr rfl
        have HCK := Lib.hid (rcheck_any wi v0 v1 v2 v3 v4 v5 v6 v7 v8 v9 v10 (.slice p C.length c) C HS.out.st.rdT (fun x hx => (HS.out.si x hx).2.2.2.2) (by have := HS.out.ct; have := HI.out.nk; have := HT.out.2; omega))
        rw [← hE] at HCK
        have HE := Lib.hid hE
        clear hE
        go_wp2_with fail
        (with_reducible refine HCK.out.mono ?_)
        rintro e w3 ⟨rfl, f3⟩
        have H3 := Lib.hid (And.intro (HI.out.grow f3) (HS.out.grow f3))
        clear f3 q5
        by_cases hz : E = 0
        · have e1 : (E != 0) = false := by rw [hz]; rfl
          have HFN := Lib.hid (show R = .ok ([v0, v1, v2, v3, v4, v5, v6, v7, v8, v9, v10], C.map Prod.fst) from by rw [HR.out, HGE.out]; exact fin_ok (by rw [← HE.out]; exact hz))
          have q5 : scr? w3 sb = some (.agg #[.int .i64 v0, .int .i64 v1, .int .i64 v2, .int .i64 v3, .int .i64 v4, .int .i64 v5, .int .i64 v6, .int .i64 v7, .int .i64 v8, .int .i64 v9, .int .i64 v10, .slice p C.length c]) := H3.out.2.sb.scr rfl
          have q1 := H3.out.1.rb.can12 rfl
          have zo : scrOk #[.int .i64 v0, .int .i64 v1, .int .i64 v2, .int .i64 v3, .int .i64 v4, .int .i64 v5, .int .i64 v6, .int .i64 v7, .int .i64 v8, .int .i64 v9, .int .i64 v10, .slice p C.length c] = true := scrC_ok (cfg := [v0, v1, v2, v3, v4, v5, v6, v7, v8, v9, v10]) rfl rfl
          have hne := HNB.out.2.2.2.1
          have k2 : Blk (layA w3 rb #[.int .i64 v0, .int .i64 v1, .int .i64 v2, .int .i64 v3, .int .i64 v4, .int .i64 v5, .int .i64 v6, .int .i64 v7, .int .i64 v8, .int .i64 v9, .int .i64 v10, .slice p C.length c]) fb #[.int .i64 0, .int .i64 0, .int .i64 0] 33 := H3.out.1.fb.lay_other (Ne.symm hne)
          have q2 := k2.can3 rfl
          have fo : ftOk #[.int .i64 0, .int .i64 0, .int .i64 0] = true := ftOk3 _ _ _
          obtain ⟨wz, hwz⟩ : ∃ wz, layA (layA w3 rb #[.int .i64 v0, .int .i64 v1, .int .i64 v2, .int .i64 v3, .int .i64 v4, .int .i64 v5, .int .i64 v6, .int .i64 v7, .int .i64 v8, .int .i64 v9, .int .i64 v10, .slice p C.length c]) fb #[.int .i64 0, .int .i64 0, .int .i64 0] = wz := ⟨_, rfl⟩
          have HWZ := Lib.hid hwz
          have HZ := Lib.hid (show Blk wz rb #[.int .i64 v0, .int .i64 v1, .int .i64 v2, .int .i64 v3, .int .i64 v4, .int .i64 v5, .int .i64 v6, .int .i64 v7, .int .i64 v8, .int .i64 v9, .int .i64 v10, .slice p C.length c] 26 ∧ Blk wz fb #[.int .i64 0, .int .i64 0, .int .i64 0] 33 ∧ Fr [] w wz ∧ StepsV wz n0 (.slice p C.length c) C from by
            rw [← hwz]
            have r1 : Blk (layA w3 rb #[.int .i64 v0, .int .i64 v1, .int .i64 v2, .int .i64 v3, .int .i64 v4, .int .i64 v5, .int .i64 v6, .int .i64 v7, .int .i64 v8, .int .i64 v9, .int .i64 v10, .slice p C.length c]) rb #[.int .i64 v0, .int .i64 v1, .int .i64 v2, .int .i64 v3, .int .i64 v4, .int .i64 v5, .int .i64 v6, .int .i64 v7, .int .i64 v8, .int .i64 v9, .int .i64 v10, .slice p C.length c] 26 := H3.out.1.rb.layA rfl _ rfl
            have g1 : Fr [rb] w3 (layA w3 rb #[.int .i64 v0, .int .i64 v1, .int .i64 v2, .int .i64 v3, .int .i64 v4, .int .i64 v5, .int .i64 v6, .int .i64 v7, .int .i64 v8, .int .i64 v9, .int .i64 v10, .slice p C.length c]) := (Fr.refl _ _).layA _ _ (.inl (by simp))
            have g2 : Fr [fb] (layA w3 rb #[.int .i64 v0, .int .i64 v1, .int .i64 v2, .int .i64 v3, .int .i64 v4, .int .i64 v5, .int .i64 v6, .int .i64 v7, .int .i64 v8, .int .i64 v9, .int .i64 v10, .slice p C.length c]) (layA (layA w3 rb #[.int .i64 v0, .int .i64 v1, .int .i64 v2, .int .i64 v3, .int .i64 v4, .int .i64 v5, .int .i64 v6, .int .i64 v7, .int .i64 v8, .int .i64 v9, .int .i64 v10, .slice p C.length c]) fb #[.int .i64 0, .int .i64 0, .int .i64 0]) := (Fr.refl _ _).layA _ _ (.inl (by simp))
            have s1 := H3.out.2.st.frB g1 H3.out.1.rb
            refine ⟨r1.lay_other hne, k2.lay3 rfl _ rfl, (H3.out.1.fr.layA _ _ (.inr HNB.out.1)).layA _ _ (.inr HNB.out.2.1), ⟨own_fr s1.own g2 (fun x hx hm => by simp at hm; subst hm; exact own_ne s1.own hx k2 (by decide) rfl), s1.blk, fun x hx => (s1.byt x hx).fr' g2 (fun y hy hm => by simp at hm; subst hm; exact (s1.byt x hx).ne k2 (by decide) _ hy rfl)⟩⟩)
          clear hz k2 hne hwz
          go_wp2
          rw [HWZ.out]
          exact bodyPost_ret (results_two rfl _ _ rb fb _ _ _ _ rfl rfl (HZ.out.1.scr rfl) HZ.out.2.1) rfl (RParQ.good (cfg := [v0, v1, v2, v3, v4, v5, v6, v7, v8, v9, v10]) HFN.out rfl HZ.out.2.2.2 HZ.out.2.2.1)
        · have e1 : (E != 0) = true := by rw [bne_iff_ne]; exact hz
          have HFN := Lib.hid (show R = .error (0, 0, E) from by rw [HR.out, HGE.out, HE.out]; exact fin_bad (by rw [← HE.out]; exact hz))
          clear hz
          obtain ⟨b1, b2, b3, b4⟩ := bad_boxes (a := .int .i64 0) (b := .int .i64 0) (c := .int .i64 E) H3.out.1.rb H3.out.1.fb H3.out.1.fr HNB.out.1 HNB.out.2.1
          have q1 := (H3.out.1.rb).can12 rfl
          have zo := scrOk_zero
          have q2 : can3 (layA w3 rb #[.int .i64 0, .int .i64 0, .int .i64 0, .int .i64 0, .int .i64 0, .int .i64 0, .int .i64 0, .int .i64 0, .int .i64 0, .int .i64 0, .int .i64 0, .slice none 0 0]) fb = true := b1
          have fo : ftOk #[.int .i64 0, .int .i64 0, .int .i64 E] = true := ftOk3 _ _ _
          obtain ⟨wz, hwz⟩ : ∃ wz, layA (layA w3 rb #[.int .i64 0, .int .i64 0, .int .i64 0, .int .i64 0, .int .i64 0, .int .i64 0, .int .i64 0, .int .i64 0, .int .i64 0, .int .i64 0, .int .i64 0, .slice none 0 0]) fb #[.int .i64 0, .int .i64 0, .int .i64 E] = wz := ⟨_, rfl⟩
          have HWZ := Lib.hid hwz
          have HZ := Lib.hid (show Blk wz rb zeroScr 26 ∧ Blk wz fb #[.int .i64 0, .int .i64 0, .int .i64 E] 33 ∧ Fr [] w wz from by rw [← hwz]; exact ⟨b2, b3, b4⟩)
          clear b1 b2 b3 b4 hwz
          go_wp2
          rw [HWZ.out]
          exact bodyPost_ret (results_two rfl _ _ rb fb _ _ _ _ rfl rfl (HZ.out.1.scr rfl) HZ.out.2.1) rfl (RParQ.bad (l := 0) (a := 0) HFN.out HZ.out.2.2)
end Sc
end Go.Proofs.YtbpgpjibljgiiaaGreatDoor
