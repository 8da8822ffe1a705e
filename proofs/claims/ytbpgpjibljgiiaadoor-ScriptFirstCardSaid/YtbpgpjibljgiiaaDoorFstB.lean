/-
  Script: ScriptFirst, the walk. Printed by genFs.py.
-/
import Derived.Test.YtbpgpjibljgiiaaDoorFstA
import Derived.Deep.Cut
namespace Go.Proofs.YtbpgpjibljgiiaaDoor
open Go.RowKit
set_option linter.unusedVariables false
set_option linter.unusedSimpArgs false
attribute [local go_sem] Oper.semAt_some
attribute [local go_sem ↓] loadVar29 storeVar29
attribute [local go_sem] run_loadScr run_storeScr
namespace Sc
theorem hit_err (k : Nat) (R : Except Flt3 (List Int × List St)) : hit k R = (errOf R).bind fun f => if 1 ≤ f.1 ∧ f.1 ≤ k then some f else none := by
  cases R <;> rfl
theorem cat_data (t b : ByteArray) (e : Nat) : (t.extract 0 e ++ b).data.toList = t.data.toList.take e ++ b.data.toList := by
  rw [ByteArray.data_append, Array.toList_append, Lib.extract_from_zero]
set_option maxRecDepth 100000 in
set_option maxHeartbeats 16000000 in
theorem first_walk (w : World) (t bh : ByteArray) (n : Int) (m : Int) (hm : w.cell? ⟨1, 0, none⟩ = some (.int .i64 m)) (hg : w.cell? ⟨0, 0, none⟩ = some errTy) (ht : t.size ≤ 140737488351232) (hb : bh.size ≤ 140737488351232) :
    Calls Tryd.prog 3 #[.string t, .string bh, .int .i64 n] w fun e w' => e = .returned (.bool true) ∧ Fr [] w w' := by
  have HG := Lib.hid (show ∀ W, Fr [] w W → W.cell? ⟨0, 0, none⟩ = some errTy from fun W f => (f.cell (World.block_lt_of_cell? w _ hg) (by simp)).trans hg)
  have HM := Lib.hid (show ∀ W, Fr [] w W → W.cell? ⟨1, 0, none⟩ = some (.int .i64 m) from fun W f => (f.cell (World.block_lt_of_cell? w _ hm) (by simp)).trans hm)
  have HFA := Lib.hid (faulted_any w m hm hg)
  have HL := Lib.hid (fun W (n : Nat) (hn : n ≤ t.size) => lines_any W t n hn (by omega))
  have HS := Lib.hid (And.intro ht hb)
  clear hm hg ht hb
  obtain ⟨n', hn'⟩ : ∃ n' : Nat, n' = if n < 0 ∨ (t.size : Int) < n then t.size else n.toNat := ⟨_, rfl⟩
  have hle : n' ≤ t.size := by rw [hn']; split <;> omega
  have HN := Lib.hid (And.intro hn' hle)
  clear hn' hle
  go_enter Tryd.func3, Tryd.ntmps3
  go_wp2_with fail
  (with_reducible refine HFA.out.mono ?_)
  rintro e w1 ⟨rfl, f1⟩
  have HF1 := Lib.hid f1
  clear f1
  obtain ⟨b, hb⟩ : ∃ b, b = decide (n < 0 ∨ (t.size : Int) < n) := ⟨_, rfl⟩
  have HB := Lib.hid hb
  clear hb
  go_upto_region 3 with fail
  go_cut [27] from 18 (fun s27 wx => s27 = .bool b ∧ wx = w1)
  case first =>
    by_cases h0 : n < 0
    · have d1 : decide (n < 0) = true := decide_eq_true h0
      have hb : b = true := by rw [HB.out]; exact decide_eq_true (.inl h0)
      have HBB := Lib.hid hb
      clear h0 hb
      go_wp2_with fail
      go_meet
      case rel => exact ⟨by rw [HBB.out], rfl⟩
    · have d1 : decide (n < 0) = false := decide_eq_false h0
      by_cases h1 : (t.size : Int) < n
      · have d2 : decide ((t.size : Int) < n) = true := decide_eq_true h1
        have hb : b = true := by rw [HB.out]; exact decide_eq_true (.inr h1)
        have HBB := Lib.hid hb
        clear h0 h1 hb
        go_wp2_with fail
        go_meet
        case rel => exact ⟨by rw [HBB.out], rfl⟩
      · have d2 : decide ((t.size : Int) < n) = false := decide_eq_false h1
        have hb : b = false := by rw [HB.out]; exact decide_eq_false (by omega)
        have HBB := Lib.hid hb
        clear h0 h1 hb
        go_wp2_with fail
        go_meet
        case rel => exact ⟨by rw [HBB.out], rfl⟩
  case rest =>
    obtain ⟨rfl, rfl⟩ := hcut
    go_upto_if 27 with fail
    go_cut [2] from 18 (fun s2 wx => s2 = .int .i64 n' ∧ wx = wc)
    case first =>
      cases b with
      | true =>
        have HNN := Lib.hid (show n' = t.size by rw [HN.out.1, if_pos (of_decide_eq_true HB.out.symm)])
        go_wp2_with fail
        go_meet
        case rel => exact ⟨by rw [HNN.out], rfl⟩
      | false =>
        have hb := of_decide_eq_false HB.out.symm
        have HNN := Lib.hid (show n = (n' : Int) by rw [HN.out.1, if_neg hb]; omega)
        clear hb
        go_wp2_with fail
        go_meet
        case rel => exact ⟨by rw [← HNN.out], rfl⟩
    case rest =>
      obtain ⟨rfl, hwc⟩ := hcut
      rename_i wd
      subst hwc
      go_wp2_with fail
      (with_reducible refine (HL.out _ n' HN.out.2).mono ?_)
      rintro ev w2 ⟨P, e, rfl, hP, hfl, het, hPl, rfl⟩
      have HP := Lib.hid (And.intro hP (And.intro hfl (And.intro het hPl)))
      have e0 : (0 : Int) ≤ (e : Int) := by omega
      have e1 : (e : Int) ≤ (t.size : Int) := by omega
      have e2 : (t.size : Int) ≤ 9223372036854775806 := by have := HS.out.1; omega
      obtain ⟨k, hk⟩ : ∃ k, k = P.length := ⟨_, rfl⟩
      have HK := Lib.hid hk
      rw [← hk]
      clear hP hfl het hPl hk
      have hcat : min e t.size + bh.size ≤ 9223372036854775807 := by have := HS.out.1; have := HS.out.2; omega
      go_upto_region 7 with fail
      obtain ⟨o, ho⟩ : ∃ o, o = t.extract 0 e ++ bh := ⟨_, rfl⟩
      have HO := Lib.hid (show o.data.toList = t.data.toList.take e ++ bh.data.toList from by rw [ho]; exact cat_data t bh e)
      rw [← ho]
      clear ho hcat
      by_cases l1 : 4194304 < t.size
      · have d1 : decide ((4194304 : Int) < (t.size : Int)) = true := decide_eq_true (by omega)
        clear l1
        go_wp2
        go_ret
        exact ⟨rfl, HF1.out⟩
      · have d1 : decide ((4194304 : Int) < (t.size : Int)) = false := decide_eq_false (by omega)
        by_cases l2 : 4194304 < o.size
        · have d2 : decide ((4194304 : Int) < (o.size : Int)) = true := decide_eq_true (by omega)
          clear l1 l2
          go_wp2
          go_ret
          exact ⟨rfl, HF1.out⟩
        · have d2 : decide ((4194304 : Int) < (o.size : Int)) = false := decide_eq_false (by omega)
          have HLW := Lib.hid (first_law t o e P bh.data.toList HP.out.1 HP.out.2.1 HO.out (by omega) (by omega))
          have HP1 := Lib.hid (parse_any w2 t m (HM.out _ HF1.out))
          clear l1 l2
          go_wp2_with fail
          (with_reducible refine HP1.out.mono ?_)
          rintro ez w3 hq
          obtain ⟨cs1, ev1, rfl, hs1, hev1, f3⟩ := hq.err
          have q1 := new_can w3
          obtain ⟨w4, hw4⟩ : ∃ w4, layA (w3.alloc (.cells #[.int .i64 0, .int .i64 0, .int .i64 0, .int .i64 0, .int .i64 0, .int .i64 0, .int .i64 0, .int .i64 0, .int .i64 0, .int .i64 0, .int .i64 0, .slice none 0 0] 29)) w3.heap.size cs1 = w4 := ⟨_, rfl⟩
          have f4 : Fr [] w3 w4 := by rw [← hw4]; exact new_lay w3 cs1
          have HW4 := Lib.hid hw4
          have HF4 := Lib.hid (show Fr [] w w4 ∧ ErrV w4 ev1 (errOf (parseP t)) from ⟨(HF1.out.trans f3 (by simp)).trans f4 (by simp), hev1.fr f4 (by simp)⟩)
          clear hw4 f4 hq hev1 f3
          go_upto_region 10 with fail
          rw [HW4.out]
          clear q1
          have HP2 := Lib.hid (parse_any w4 o m (HM.out _ HF4.out.1))
          go_wp2_with fail
          (with_reducible refine HP2.out.mono ?_)
          rintro ez w5 hq
          obtain ⟨cs2, ev2, rfl, hs2, hev2, f5⟩ := hq.err
          have q1 := new_can w5
          obtain ⟨w6, hw6⟩ : ∃ w6, layA (w5.alloc (.cells #[.int .i64 0, .int .i64 0, .int .i64 0, .int .i64 0, .int .i64 0, .int .i64 0, .int .i64 0, .int .i64 0, .int .i64 0, .int .i64 0, .int .i64 0, .slice none 0 0] 29)) w5.heap.size cs2 = w6 := ⟨_, rfl⟩
          have f6 : Fr [] w5 w6 := by rw [← hw6]; exact new_lay w5 cs2
          have HW6 := Lib.hid hw6
          have HF6 := Lib.hid (show Fr [] w w6 ∧ ErrV w6 ev1 (errOf (parseP t)) ∧ ErrV w6 ev2 (errOf (parseP o)) from ⟨(HF4.out.1.trans f5 (by simp)).trans f6 (by simp), (HF4.out.2.fr f5 (by simp)).fr f6 (by simp), hev2.fr f6 (by simp)⟩)
          clear hw6 f6 hq hev2 f5
          go_upto_region 11 with fail
          rw [HW6.out]
          clear q1 hs1 hs2
          obtain ⟨ta, hta⟩ : ∃ ta, ta = w6.heap.size := ⟨_, rfl⟩
          obtain ⟨tb, htb⟩ : ∃ tb, tb = (w6.alloc (.cells #[.pointer none] 34)).heap.size := ⟨_, rfl⟩
          have hba := Blk.new_at hta #[.pointer none] 34
          have hbb := Blk.new_at htb #[.pointer none] 34
          have htab : ta ≠ tb := by have := hba.lt; omega
          have HTT := Lib.hid (And.intro hta (And.intro htb htab))
          have etb : ta + 1 = tb := by rw [htb, hta]; simp
          obtain ⟨w7, hw7⟩ : ∃ w7, (w6.alloc (.cells #[.pointer none] 34)).alloc (.cells #[.pointer none] 34) = w7 := ⟨_, rfl⟩
          have h7 : Blk w7 ta #[.pointer none] 34 ∧ Blk w7 tb #[.pointer none] 34 ∧ Fr [] w6 w7 := by rw [← hw7]; exact ⟨hba.alloc _, hbb, ((Fr.refl _ _).alloc _).alloc _⟩
          have H7 := Lib.hid h7
          have HEV1 := Lib.hid (HF6.out.2.1.fr h7.2.2 (by simp))
          have HEV2 := Lib.hid (HF6.out.2.2.fr h7.2.2 (by simp))
          have HFW := Lib.hid (HF6.out.1.trans h7.2.2 (by simp))
          have HETB := Lib.hid etb
          have HW7 := Lib.hid hw7
          have HTA := Lib.hid hta
          obtain ⟨H1, hh1⟩ : ∃ H1, H1 = hit P.length (parseP t) := ⟨_, rfl⟩
          obtain ⟨H2, hh2⟩ : ∃ H2, H2 = hit P.length (parseP o) := ⟨_, rfl⟩
          have HHI1 := Lib.hid hh1
          have HHI2 := Lib.hid hh2
          have HEQ := Lib.hid (show H1 = H2 by rw [hh1, hh2]; exact HLW.out)
          clear hta htb hba hbb htab etb hw7 h7 hh1 hh2
          go_upto_region 12 with fail
          rw [← HTA.out, HETB.out, HW7.out]
          go_cut [16] from 59 (fun s16 wx => s16 = .bool H1.isSome ∧ Fr [ta] w7 wx ∧ ∃ pv, Blk wx ta #[pv] 34 ∧ ∀ f, H1 = some f → ∃ fb, pv = .pointer (some ⟨fb, 0, none⟩) ∧ Blk wx fb #[.int .i64 f.1, .int .i64 f.2.1, .int .i64 f.2.2] 39)
          case first =>
            cases h1 : errOf (parseP t) with
            | none =>
              have hv := HEV1.out
              rw [h1] at hv
              obtain rfl : ev1 = .nilIface := hv
              have hh : hit P.length (parseP t) = none := by rw [hit_err, h1]; rfl
              have HH := Lib.hid (show H1 = none by rw [HHI1.out, hh])
              clear h1 hh
              go_wp2_with fail
              (with_reducible refine (as_nil _ _).mono ?_)
              rintro e' wz ⟨rfl, hwz⟩
              subst hwz
              go_wp2
              go_meet
              case rel => exact ⟨by rw [HH.out]; rfl, Fr.refl _ _, _, H7.out.1, fun f hf => by rw [HH.out] at hf; cases hf⟩
            | some f =>
              have hv := HEV1.out
              rw [h1] at hv
              obtain ⟨fb, rfl, hfb⟩ := hv
              have HFB := Lib.hid hfb
              have hhe : hit P.length (parseP t) = if 1 ≤ f.1 ∧ f.1 ≤ P.length then some f else none := by rw [hit_err, h1]; rfl
              have HHE := Lib.hid (show H1 = if 1 ≤ f.1 ∧ f.1 ≤ P.length then some f else none by rw [HHI1.out, hhe])
              clear h1 hfb hhe
              have HAS := Lib.hid (as_blk w7 fb ta _ (HG.out _ HFW.out) H7.out.1)
              obtain ⟨f1, f2, f3⟩ := f
              by_cases c1 : 1 ≤ f1
              · have d1 : decide ((1 : Int) ≤ (f1 : Int)) = true := decide_eq_true (by omega)
                by_cases c2 : f1 ≤ P.length
                · have d2 : decide ((f1 : Int) ≤ (k : Int)) = true := decide_eq_true (by rw [HK.out]; omega)
                  have HH := Lib.hid (show H1 = some (f1, f2, f3) by rw [HHE.out]; exact if_pos ⟨c1, c2⟩)
                  have D2 := Lib.hid (show decide (f1 ≤ k) = true from decide_eq_true (by rw [HK.out]; exact c2))
                  clear c1 c2
                  go_wp2_with fail
                  (with_reducible refine HAS.out.mono ?_)
                  rintro e' wz ⟨rfl, htz, fz⟩
                  have hfz := fz.blk HFB.out (by have := HFB.out.ne H7.out.1 (by decide); simp; omega)
                  have y0 := htz.at 0 (v := .pointer (some ⟨fb, 0, none⟩)) rfl
                  have y1 := hfz.at 0 (v := .int .i64 f1) rfl
                  have HZ := Lib.hid (And.intro htz (And.intro fz hfz))
                  clear htz fz hfz
                  go_wp2
                  go_meet
                  case rel => exact ⟨by rw [HH.out]; show Value.bool (decide (f1 ≤ k)) = Value.bool true; rw [D2.out], HZ.out.2.1, _, HZ.out.1, fun g hg => by rw [HH.out] at hg; cases hg; exact ⟨fb, rfl, HZ.out.2.2⟩⟩
                · have d2 : decide ((f1 : Int) ≤ (k : Int)) = false := decide_eq_false (by rw [HK.out]; omega)
                  have HH := Lib.hid (show H1 = none by rw [HHE.out]; exact if_neg (fun q => c2 q.2))
                  have D2 := Lib.hid (show decide (f1 ≤ k) = false from decide_eq_false (by rw [HK.out]; exact c2))
                  clear c1 c2
                  go_wp2_with fail
                  (with_reducible refine HAS.out.mono ?_)
                  rintro e' wz ⟨rfl, htz, fz⟩
                  have hfz := fz.blk HFB.out (by have := HFB.out.ne H7.out.1 (by decide); simp; omega)
                  have y0 := htz.at 0 (v := .pointer (some ⟨fb, 0, none⟩)) rfl
                  have y1 := hfz.at 0 (v := .int .i64 f1) rfl
                  have HZ := Lib.hid (And.intro htz (And.intro fz hfz))
                  clear htz fz hfz
                  go_wp2
                  go_meet
                  case rel => exact ⟨by rw [HH.out]; show Value.bool (decide (f1 ≤ k)) = Value.bool false; rw [D2.out], HZ.out.2.1, _, HZ.out.1, fun g hg => by rw [HH.out] at hg; cases hg⟩
              · have d1 : decide ((1 : Int) ≤ (f1 : Int)) = false := decide_eq_false (by omega)
                have HH := Lib.hid (show H1 = none by rw [HHE.out]; exact if_neg (fun q => c1 q.1))
                clear c1
                go_wp2_with fail
                (with_reducible refine HAS.out.mono ?_)
                rintro e' wz ⟨rfl, htz, fz⟩
                have hfz := fz.blk HFB.out (by have := HFB.out.ne H7.out.1 (by decide); simp; omega)
                have y0 := htz.at 0 (v := .pointer (some ⟨fb, 0, none⟩)) rfl
                have y1 := hfz.at 0 (v := .int .i64 f1) rfl
                have HZ := Lib.hid (And.intro htz (And.intro fz hfz))
                clear htz fz hfz
                go_wp2
                go_meet
                case rel => exact ⟨by rw [HH.out]; rfl, HZ.out.2.1, _, HZ.out.1, fun g hg => by rw [HH.out] at hg; cases hg⟩
          case rest =>
            obtain ⟨rfl, hfa, pv, hpa, hpf⟩ := hcut
            obtain ⟨wx, hwx⟩ : ∃ wx : World, wx = wc := ⟨_, rfl⟩
            rw [← hwx] at hfa hpa hpf ⊢
            clear hwx
            have hrx : Fr [] w wx := HFW.out.trans hfa (fun x hx => .inr (by have := HFW.out.size; have := HTT.out.1; have := HF6.out.1.size; simp at hx; omega))
            have hbx := hfa.blk H7.out.2.1 (by have := HTT.out.2.2; simp; omega)
            have HEV2 := Lib.hid (HEV2.out.fr hfa (fun x hx c hb => by simp at hx; subst hx; exact absurd (hb.inj H7.out.1).2 (by decide)))
            have HX := Lib.hid (And.intro hrx (And.intro hbx (And.intro hpa hpf)))
            clear hrx hbx hfa hpa hpf
            go_upto_region 13 with fail
            go_cut [17] from 77 (fun s17 wy => s17 = .bool H2.isSome ∧ Fr [tb] wx wy ∧ ∃ pv, Blk wy tb #[pv] 34 ∧ ∀ f, H2 = some f → ∃ fb, pv = .pointer (some ⟨fb, 0, none⟩) ∧ Blk wy fb #[.int .i64 f.1, .int .i64 f.2.1, .int .i64 f.2.2] 39)
            case first =>
              cases h2 : errOf (parseP o) with
              | none =>
                have hv := HEV2.out
                rw [h2] at hv
                obtain rfl : ev2 = .nilIface := hv
                have hh : hit P.length (parseP o) = none := by rw [hit_err, h2]; rfl
                have HH := Lib.hid (show H2 = none by rw [HHI2.out, hh])
                clear h2 hh
                go_wp2_with fail
                (with_reducible refine (as_nil _ _).mono ?_)
                rintro e' wz ⟨rfl, hwz⟩
                subst hwz
                go_wp2
                go_meet
                case rel => exact ⟨by rw [HH.out]; rfl, Fr.refl _ _, _, HX.out.2.1, fun f hf => by rw [HH.out] at hf; cases hf⟩
              | some f =>
                have hv := HEV2.out
                rw [h2] at hv
                obtain ⟨fb, rfl, hfb⟩ := hv
                have HFB := Lib.hid hfb
                have hhe : hit P.length (parseP o) = if 1 ≤ f.1 ∧ f.1 ≤ P.length then some f else none := by rw [hit_err, h2]; rfl
                have HHE := Lib.hid (show H2 = if 1 ≤ f.1 ∧ f.1 ≤ P.length then some f else none by rw [HHI2.out, hhe])
                clear h2 hfb hhe
                have HAS := Lib.hid (as_blk wx fb tb _ (HG.out _ HX.out.1) HX.out.2.1)
                obtain ⟨f1, f2, f3⟩ := f
                by_cases c1 : 1 ≤ f1
                · have d1 : decide ((1 : Int) ≤ (f1 : Int)) = true := decide_eq_true (by omega)
                  by_cases c2 : f1 ≤ P.length
                  · have d2 : decide ((f1 : Int) ≤ (k : Int)) = true := decide_eq_true (by rw [HK.out]; omega)
                    have HH := Lib.hid (show H2 = some (f1, f2, f3) by rw [HHE.out]; exact if_pos ⟨c1, c2⟩)
                    have D2 := Lib.hid (show decide (f1 ≤ k) = true from decide_eq_true (by rw [HK.out]; exact c2))
                    clear c1 c2
                    go_wp2_with fail
                    (with_reducible refine HAS.out.mono ?_)
                    rintro e' wz ⟨rfl, htz, fz⟩
                    have hfz := fz.blk HFB.out (by have := HFB.out.ne HX.out.2.1 (by decide); simp; omega)
                    have y0 := htz.at 0 (v := .pointer (some ⟨fb, 0, none⟩)) rfl
                    have y1 := hfz.at 0 (v := .int .i64 f1) rfl
                    have HZ := Lib.hid (And.intro htz (And.intro fz hfz))
                    clear htz fz hfz
                    go_wp2
                    go_meet
                    case rel => exact ⟨by rw [HH.out]; show Value.bool (decide (f1 ≤ k)) = Value.bool true; rw [D2.out], HZ.out.2.1, _, HZ.out.1, fun g hg => by rw [HH.out] at hg; cases hg; exact ⟨fb, rfl, HZ.out.2.2⟩⟩
                  · have d2 : decide ((f1 : Int) ≤ (k : Int)) = false := decide_eq_false (by rw [HK.out]; omega)
                    have HH := Lib.hid (show H2 = none by rw [HHE.out]; exact if_neg (fun q => c2 q.2))
                    have D2 := Lib.hid (show decide (f1 ≤ k) = false from decide_eq_false (by rw [HK.out]; exact c2))
                    clear c1 c2
                    go_wp2_with fail
                    (with_reducible refine HAS.out.mono ?_)
                    rintro e' wz ⟨rfl, htz, fz⟩
                    have hfz := fz.blk HFB.out (by have := HFB.out.ne HX.out.2.1 (by decide); simp; omega)
                    have y0 := htz.at 0 (v := .pointer (some ⟨fb, 0, none⟩)) rfl
                    have y1 := hfz.at 0 (v := .int .i64 f1) rfl
                    have HZ := Lib.hid (And.intro htz (And.intro fz hfz))
                    clear htz fz hfz
                    go_wp2
                    go_meet
                    case rel => exact ⟨by rw [HH.out]; show Value.bool (decide (f1 ≤ k)) = Value.bool false; rw [D2.out], HZ.out.2.1, _, HZ.out.1, fun g hg => by rw [HH.out] at hg; cases hg⟩
                · have d1 : decide ((1 : Int) ≤ (f1 : Int)) = false := decide_eq_false (by omega)
                  have HH := Lib.hid (show H2 = none by rw [HHE.out]; exact if_neg (fun q => c1 q.1))
                  clear c1
                  go_wp2_with fail
                  (with_reducible refine HAS.out.mono ?_)
                  rintro e' wz ⟨rfl, htz, fz⟩
                  have hfz := fz.blk HFB.out (by have := HFB.out.ne HX.out.2.1 (by decide); simp; omega)
                  have y0 := htz.at 0 (v := .pointer (some ⟨fb, 0, none⟩)) rfl
                  have y1 := hfz.at 0 (v := .int .i64 f1) rfl
                  have HZ := Lib.hid (And.intro htz (And.intro fz hfz))
                  clear htz fz hfz
                  go_wp2
                  go_meet
                  case rel => exact ⟨by rw [HH.out]; rfl, HZ.out.2.1, _, HZ.out.1, fun g hg => by rw [HH.out] at hg; cases hg⟩
            case rest =>
              obtain ⟨rfl, hfb, pv2, hpb, hpf2⟩ := hcut
              obtain ⟨wy, hwy⟩ : ∃ wy : World, wy = wc := ⟨_, rfl⟩
              rw [← hwy] at hfb hpb hpf2 ⊢
              clear hwy
              have h5 : tb = w6.heap.size + 1 := by rw [HTT.out.2.1]; simp
              have hry : Fr [] w wy := HX.out.1.trans hfb (fun x hx => .inr (by have := HF6.out.1.size; simp at hx; omega))
              clear h5
              have hya := hfb.blk HX.out.2.2.1 (by have := HTT.out.2.2; simp; omega)
              have HRY := Lib.hid hry
              obtain rfl := HEQ.out
              cases H1 with
              | none =>
                clear hfb hpb hpf2 hya hry
                go_wp2_with fail
                go_quiet (fail)
                go_wp2
                go_ret
                exact ⟨rfl, HRY.out.drewN _⟩
              | some f =>
                obtain ⟨fb1, hp1, hf1⟩ := HX.out.2.2.2 f rfl
                obtain ⟨fb2, rfl, hf2⟩ := hpf2 f rfl
                subst hp1
                have hf1 := hfb.blk hf1 (by have := hf1.ne HX.out.2.1 (by decide); simp; omega)
                have y0 := hya.at 0 (v := .pointer (some ⟨fb1, 0, none⟩)) rfl
                have y1 := hpb.at 0 (v := .pointer (some ⟨fb2, 0, none⟩)) rfl
                have a0 := hf1.at 0 (v := .int .i64 f.1) rfl
                have a1 := hf1.at 1 (v := .int .i64 f.2.1) rfl
                have a2 := hf1.at 2 (v := .int .i64 f.2.2) rfl
                have b0 := hf2.at 0 (v := .int .i64 f.1) rfl
                have b1 := hf2.at 1 (v := .int .i64 f.2.1) rfl
                have b2 := hf2.at 2 (v := .int .i64 f.2.2) rfl
                obtain ⟨f1, f2, f3⟩ := f
                clear hfb hpb hpf2 hya hry hf1 hf2
                go_wp2_with fail
                go_quiet (fail)
                go_wp2
                go_ret
                exact ⟨rfl, HRY.out.drewN _⟩
end Sc
end Go.Proofs.YtbpgpjibljgiiaaDoor
