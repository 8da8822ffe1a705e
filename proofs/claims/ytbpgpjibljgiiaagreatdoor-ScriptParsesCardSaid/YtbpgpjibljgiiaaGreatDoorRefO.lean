/-
  Script, the document: reading a number. Printed by genWh.py.
-/
import Derived.Test.YtbpgpjibljgiiaaGreatDoorRnM
namespace Go.Proofs.YtbpgpjibljgiiaaGreatDoor
open Go.RowKit
set_option linter.unusedVariables false
set_option linter.unusedSimpArgs false
attribute [local go_sem] Oper.semAt_some
namespace Sc
open Lib (decDigits itoa)
set_option maxRecDepth 100000 in
set_option maxHeartbeats 4000000 in
theorem numR_any (w : World) (n : Int) (h0 : -9223372036854775808 ≤ n) (h1 : n ≤ 9223372036854775807) : Calls Tryz.prog 64 #[.int .i64 n] w fun e w' => e = .returned (.string (numT n)) ∧ Fr [] w w' := by
  by_cases hn : n < 0
  · by_cases hmin : n = -9223372036854775808
    · have HT := Lib.hid (show numT n = ⟨#[45, 57, 50, 50, 51, 51, 55, 50, 48, 51, 54, 56, 53, 52, 55, 55, 53, 56, 48, 56]⟩ by rw [hmin]; decide +kernel)
      rw [HT.out]
      subst hmin
      clear HT hn h0 h1
      go_enter Tryz.func64, Tryz.ntmps64
      go_wp2
      go_ret
      exact ⟨rfl, Fr.refl _ _⟩
    · have d1 : decide (n < 0) = true := decide_eq_true hn
      have d2 : (n == -9223372036854775808) = false := by rw [beq_eq_false_iff_ne]; exact hmin
      have q1 : IntKind.i64.wrap (-n) = -n := by rw [IntKind.wrap_i64]; omega
      have ih := Lib.hid (fun W => number_pos (-n).toNat (-n) (by omega) (Nat.le_refl _) (by omega) W)
      have ha := numT_neg hn
      have hlen := numT_short (-n) (by omega) (by omega)
      obtain ⟨T, hT⟩ : ∃ T, T = numT (-n) := ⟨_, rfl⟩
      rw [← hT] at ha hlen ih
      have hl2 : (⟨#[45]⟩ : ByteArray).size + T.size ≤ 9223372036854775807 := by
        have : (⟨#[45]⟩ : ByteArray).size = 1 := rfl
        omega
      have hl3 : 1 + T.size ≤ 9223372036854775807 := by omega
      rw [← ha]
      clear hmin hT ha
      go_enter Tryz.func64, Tryz.ntmps64
      go_wp2_with fail
      (with_reducible refine (ih.out _).mono ?_)
      rintro e w1 ⟨rfl, f1⟩
      go_wp2
      go_ret
      exact ⟨rfl, f1⟩
  · exact number_pos n.toNat n (by omega) (Nat.le_refl _) h1 w
set_option maxRecDepth 100000 in
set_option maxHeartbeats 16000000 in
theorem whole_any (w : World) (s : ByteArray) (hs : s.size ≤ 4294967296) : Calls Tryz.prog 40 #[.string s] w fun e w' => ∃ v, e = .returned (.tuple #[.int .i64 v, .bool (scan s.data.toList).isSome]) ∧ (∀ x, scan s.data.toList = some x → v = x) ∧ Fr [] w w' := by
  by_cases h0 : s.size = 0
  · have z0 : decide ((0 : Int) < (s.size : Int)) = false := decide_eq_false (by omega)
    have z1 : ((s.size : Int) == 0) = true := by rw [h0]; rfl
    rw [scan_none h0]
    clear h0 hs
    go_enter Tryz.func40, Tryz.ntmps40
    go_wp2
    go_ret2
    exact ⟨_, rfl, (fun x hx => by cases hx), Fr.refl _ _⟩
  · have z0 : decide ((0 : Int) < (s.size : Int)) = true := decide_eq_true (by omega)
    have k0 : (0 : Int) < (s.size : Int) := by omega
    have hs1 : (s.size : Int) ≤ 4294967296 := by omega
    have hpos : 0 < s.size := by omega
    obtain ⟨ok, hok⟩ : ∃ ok, ok = (scan s.data.toList).isSome := ⟨_, rfl⟩
    rw [← hok]
    have HOK := Lib.hid hok
    clear hok
    obtain ⟨c, hc⟩ : ∃ c : UInt8, s[0] = c := ⟨_, rfl⟩
    have HL := Lib.hid (show s.data.toList = c :: s.data.toList.drop 1 from by rw [← hc]; exact drop_at (i := 0) hpos)
    clear h0 hs
    by_cases hm : c = 45
    · have e0 : ((c.toNat : Int) == 45) = true := by rw [hm]; rfl
      have HNG := Lib.hid (show isNeg s.data.toList = true by rw [HL.out, hm]; rfl)
      have hsz : (s.extract 1 s.size).size = s.size - 1 := by simp [ByteArray.size_extract]
      obtain ⟨D, hD⟩ : ∃ D, D = s.extract 1 s.size := ⟨_, rfl⟩
      have HD := Lib.hid (show D.data.toList = signOff s.data.toList from by
        rw [hD, Lib.extract_to_end]
        conv => rhs; rw [HL.out, hm]
        rfl)
      have hD2 : s.extract 1 s.size = D := hD.symm
      have k1 : (1 : Int) ≤ (s.size : Int) := by omega
      clear hm hsz hD
      go_enter Tryz.func40, Tryz.ntmps40
      go_upto_region 5 with fail
      clear hD2 k1 hc e0
      by_cases hz : D.size = 0 ∨ 19 < D.size
      · have HB := Lib.hid (show scan s.data.toList = none from scan_bad_len (by rw [← HD.out]; have h2 : D.data.toList.length = D.size := Array.length_toList; omega))
        obtain rfl : ok = false := by rw [HOK.out, HB.out]; rfl
        by_cases hz0 : D.size = 0
        · have z1 : ((D.size : Int) == 0) = true := by rw [hz0]; rfl
          clear hz hz0
          go_wp2
          go_ret2
          exact ⟨_, rfl, (fun x hx => by rw [HB.out] at hx; cases hx), Fr.refl _ _⟩
        · have z1 : ((D.size : Int) == 0) = false := by rw [beq_eq_false_iff_ne]; omega
          have z2 : decide ((19 : Int) < (D.size : Int)) = true := decide_eq_true (by omega)
          clear hz hz0
          go_wp2
          go_ret2
          exact ⟨_, rfl, (fun x hx => by rw [HB.out] at hx; cases hx), Fr.refl _ _⟩
      · have z1 : ((D.size : Int) == 0) = false := by rw [beq_eq_false_iff_ne]; omega
        have z2 : decide ((19 : Int) < (D.size : Int)) = false := decide_eq_false (by omega)
        have hD19 : D.size ≤ 19 := by omega
        clear hz
        go_wp2_with fail
        go_loopw [6, 7] (fun nv iv wr => ∃ (n i : Nat), nv = .int .u64 n ∧ iv = .int .i64 i ∧ i ≤ D.size ∧ n < 10 ^ i ∧ evalD 0 D.data.toList = evalD n (D.data.toList.drop i) ∧ wr = w) (fun _ iv _ => D.size - (match iv with | .int _ q => q.toNat | _ => 0))
        case atStart => exact ⟨0, 0, rfl, rfl, Nat.zero_le _, by decide, rfl, rfl⟩
        case round =>
          obtain ⟨n, i, rfl, rfl, hi, hn, he, rfl⟩ := hrel
          have HI := Lib.hid (And.intro hi (And.intro hn he))
          clear hi hn he
          by_cases hlt : i < D.size
          · have hpw : 10 ^ i ≤ 10 ^ 18 := Nat.pow_le_pow_right (by decide) (by omega)
            have hn18 : n < 1000000000000000000 := Nat.lt_of_lt_of_le HI.out.2.1 hpw
            have k3 : (i : Int) < (D.size : Int) := by omega
            have k5 : (0 : Int) ≤ (i : Int) := by omega
            have k6 : (i : Int) ≤ 4294967296 := by omega
            obtain ⟨a, ha⟩ : ∃ a : UInt8, D[i] = a := ⟨_, rfl⟩
            have HA := Lib.hid (show D.data.toList.drop i = a :: D.data.toList.drop (i + 1) from by rw [drop_at hlt, ha])
            have HLT := Lib.hid hlt
            by_cases hb : a.toNat < 48 ∨ 57 < a.toNat
            · have HE := Lib.hid (show ok = false by rw [HOK.out, scan_bad_eval (by rw [← HD.out, HI.out.2.2, HA.out, evalD, if_pos hb])]; rfl)
              have HNO := Lib.hid (show scan s.data.toList = none from scan_bad_eval (by rw [← HD.out, HI.out.2.2, HA.out, evalD, if_pos hb]))
              by_cases hb1 : a.toNat < 48
              · have d1 : decide ((a.toNat : Int) < 48) = true := decide_eq_true (by omega)
                clear hb hb1 hpw
                go_wp2
                go_ret2
                exact ⟨_, by rw [HE.out]; rfl, (fun x hx => by rw [HNO.out] at hx; cases hx), Fr.refl _ _⟩
              · have d1 : decide ((a.toNat : Int) < 48) = false := decide_eq_false (by omega)
                have d2 : decide ((57 : Int) < (a.toNat : Int)) = true := decide_eq_true (by omega)
                clear hb hb1 hpw
                go_wp2
                go_ret2
                exact ⟨_, by rw [HE.out]; rfl, (fun x hx => by rw [HNO.out] at hx; cases hx), Fr.refl _ _⟩
            · have d1 : decide ((a.toNat : Int) < 48) = false := decide_eq_false (by omega)
              have d2 : decide ((57 : Int) < (a.toNat : Int)) = false := decide_eq_false (by omega)
              have q1 : IntKind.u64.wrap (10 * (n : Int)) = 10 * (n : Int) := by rw [IntKind.wrap_u64]; omega
              have q2 : IntKind.u8.wrap ((a.toNat : Int) - 48) = (a.toNat : Int) - 48 := by rw [IntKind.wrap_u8]; omega
              have q3 : IntKind.u64.wrap ((a.toNat : Int) - 48) = (a.toNat : Int) - 48 := by rw [IntKind.wrap_u64]; omega
              have q4 : IntKind.u64.wrap (10 * (n : Int) + ((a.toNat : Int) - 48)) = 10 * (n : Int) + ((a.toNat : Int) - 48) := by rw [IntKind.wrap_u64]; omega
              have HNX := Lib.hid (show evalD 0 D.data.toList = evalD (10 * n + (a.toNat - 48)) (D.data.toList.drop (i + 1)) from by rw [HI.out.2.2, HA.out, evalD, if_neg hb])
              have HNB := Lib.hid hb
              clear hb hpw
              go_wp2
              exact ⟨⟨10 * n + (a.toNat - 48), i + 1, by congr 1; have := HNB.out; omega, rfl, by have := HLT.out; omega, by have := HI.out.2.1; have := HNB.out; rw [Nat.pow_succ]; omega, HNX.out, trivial⟩, by have := HLT.out; show D.size - ((i : Int) + 1).toNat < D.size - ((i : Nat) : Int).toNat; omega⟩
          · obtain rfl : i = D.size := by have := HI.out.1; omega
            have hpw : 10 ^ D.size ≤ 10 ^ 19 := Nat.pow_le_pow_right (by decide) hD19
            have hn19 : n < 10000000000000000000 := Nat.lt_of_lt_of_le HI.out.2.1 hpw
            have HEV := Lib.hid (show evalD 0 D.data.toList = some n from by rw [HI.out.2.2, drop_end (Nat.lt_irrefl _)]; rfl)
            clear hpw hlt
            by_cases hz0 : n = 0
            · subst hz0
              have HLW := Lib.hid (whole_law (v := 0) (by rw [← HD.out]; exact HEV.out) (by decide) (by decide) (fun _ _ => rfl) (fun _ _ => rfl))
              have HNU := Lib.hid (numR_any wr 0 (by decide) (by decide))
              go_wp2_with fail
              (with_reducible refine HNU.out.mono ?_)
              rintro e w2 ⟨rfl, f2⟩
              obtain ⟨T, hT⟩ : ∃ T, T = numT 0 := ⟨_, rfl⟩
              rw [← hT]
              have e1 : (T.toList == s.toList) = ok := by rw [toList_beq, hT, HOK.out]; exact HLW.out.1
              clear hT
              go_wp2
              go_ret2
              exact ⟨0, rfl, HLW.out.2, f2⟩
            · have z3 : ((n : Int) == 0) = false := by rw [beq_eq_false_iff_ne]; omega
              have q1 : IntKind.u64.wrap ((n : Int) - 1) = (n : Int) - 1 := by rw [IntKind.wrap_u64]; omega
              obtain ⟨v1, hv1⟩ : ∃ v1, v1 = IntKind.i64.wrap ((n : Int) - 1) := ⟨_, rfl⟩
              obtain ⟨v2, hv2⟩ : ∃ v2, v2 = IntKind.i64.wrap (-v1) := ⟨_, rfl⟩
              obtain ⟨v, hv⟩ : ∃ v, v = IntKind.i64.wrap (v2 - 1) := ⟨_, rfl⟩
              have g1 := hv1
              have g2 := hv2
              have g3 := hv
              rw [IntKind.wrap_i64] at g1 g2 g3
              have HLW := Lib.hid (whole_law (v := v) (by rw [← HD.out]; exact HEV.out) (by omega) (by omega) (fun q _ => by rw [HNG.out] at q; cases q) (fun _ _ => by omega))
              have HNU := Lib.hid (numR_any wr v (by omega) (by omega))
              have p0 : IntKind.i64.wrap (n : Int) = IntKind.i64.wrap (n : Int) := rfl
              have p1 : IntKind.i64.wrap ((n : Int) - 1) = v1 := hv1.symm
              have p2 : IntKind.i64.wrap (-v1) = v2 := hv2.symm
              have p3 : IntKind.i64.wrap (v2 - 1) = v := hv.symm
              clear hz0 hv1 hv2 hv g1 g2 g3 p0
              go_wp2_with fail
              (with_reducible refine HNU.out.mono ?_)
              rintro e w2 ⟨rfl, f2⟩
              obtain ⟨T, hT⟩ : ∃ T, T = numT v := ⟨_, rfl⟩
              rw [← hT]
              have e1 : (T.toList == s.toList) = ok := by rw [toList_beq, hT, HOK.out]; exact HLW.out.1
              clear hT
              go_wp2
              go_ret2
              exact ⟨v, rfl, HLW.out.2, f2⟩
    · have e0 : ((c.toNat : Int) == 45) = false := by
        rw [beq_eq_false_iff_ne]
        intro q
        exact hm (UInt8.toNat_inj.1 (by rw [show (45 : UInt8).toNat = 45 from rfl]; omega))
      have HNG := Lib.hid (show isNeg s.data.toList = false by
        rw [HL.out]
        unfold isNeg
        split
        · rename_i r hr
          exact absurd (List.cons.inj hr).1 hm
        · rfl)
      have HD0 := Lib.hid (show s.data.toList = signOff s.data.toList by
        conv => rhs; rw [HL.out]
        unfold signOff
        split
        · rename_i r hr
          exact absurd (List.cons.inj hr).1 hm
        · rw [← HL.out])
      clear hm
      go_enter Tryz.func40, Tryz.ntmps40
      go_upto_region 5 with fail
      clear e0 hc
      have HD := HD0
      by_cases hz : s.size = 0 ∨ 19 < s.size
      · have HB := Lib.hid (show scan s.data.toList = none from scan_bad_len (by rw [← HD.out]; have h2 : s.data.toList.length = s.size := Array.length_toList; omega))
        obtain rfl : ok = false := by rw [HOK.out, HB.out]; rfl
        by_cases hz0 : s.size = 0
        · have z1 : ((s.size : Int) == 0) = true := by rw [hz0]; rfl
          clear hz hz0
          go_wp2
          go_ret2
          exact ⟨_, rfl, (fun x hx => by rw [HB.out] at hx; cases hx), Fr.refl _ _⟩
        · have z1 : ((s.size : Int) == 0) = false := by rw [beq_eq_false_iff_ne]; omega
          have z2 : decide ((19 : Int) < (s.size : Int)) = true := decide_eq_true (by omega)
          clear hz hz0
          go_wp2
          go_ret2
          exact ⟨_, rfl, (fun x hx => by rw [HB.out] at hx; cases hx), Fr.refl _ _⟩
      · have z1 : ((s.size : Int) == 0) = false := by rw [beq_eq_false_iff_ne]; omega
        have z2 : decide ((19 : Int) < (s.size : Int)) = false := decide_eq_false (by omega)
        have hD19 : s.size ≤ 19 := by omega
        clear hz
        go_wp2_with fail
        go_loopw [6, 7] (fun nv iv wr => ∃ (n i : Nat), nv = .int .u64 n ∧ iv = .int .i64 i ∧ i ≤ s.size ∧ n < 10 ^ i ∧ evalD 0 s.data.toList = evalD n (s.data.toList.drop i) ∧ wr = w) (fun _ iv _ => s.size - (match iv with | .int _ q => q.toNat | _ => 0))
        case atStart => exact ⟨0, 0, rfl, rfl, Nat.zero_le _, by decide, rfl, rfl⟩
        case round =>
          obtain ⟨n, i, rfl, rfl, hi, hn, he, rfl⟩ := hrel
          have HI := Lib.hid (And.intro hi (And.intro hn he))
          clear hi hn he
          by_cases hlt : i < s.size
          · have hpw : 10 ^ i ≤ 10 ^ 18 := Nat.pow_le_pow_right (by decide) (by omega)
            have hn18 : n < 1000000000000000000 := Nat.lt_of_lt_of_le HI.out.2.1 hpw
            have k3 : (i : Int) < (s.size : Int) := by omega
            have k5 : (0 : Int) ≤ (i : Int) := by omega
            have k6 : (i : Int) ≤ 4294967296 := by omega
            obtain ⟨a, ha⟩ : ∃ a : UInt8, s[i] = a := ⟨_, rfl⟩
            have HA := Lib.hid (show s.data.toList.drop i = a :: s.data.toList.drop (i + 1) from by rw [drop_at hlt, ha])
            have HLT := Lib.hid hlt
            by_cases hb : a.toNat < 48 ∨ 57 < a.toNat
            · have HE := Lib.hid (show ok = false by rw [HOK.out, scan_bad_eval (by rw [← HD.out, HI.out.2.2, HA.out, evalD, if_pos hb])]; rfl)
              have HNO := Lib.hid (show scan s.data.toList = none from scan_bad_eval (by rw [← HD.out, HI.out.2.2, HA.out, evalD, if_pos hb]))
              by_cases hb1 : a.toNat < 48
              · have d1 : decide ((a.toNat : Int) < 48) = true := decide_eq_true (by omega)
                clear hb hb1 hpw
                go_wp2
                go_ret2
                exact ⟨_, by rw [HE.out]; rfl, (fun x hx => by rw [HNO.out] at hx; cases hx), Fr.refl _ _⟩
              · have d1 : decide ((a.toNat : Int) < 48) = false := decide_eq_false (by omega)
                have d2 : decide ((57 : Int) < (a.toNat : Int)) = true := decide_eq_true (by omega)
                clear hb hb1 hpw
                go_wp2
                go_ret2
                exact ⟨_, by rw [HE.out]; rfl, (fun x hx => by rw [HNO.out] at hx; cases hx), Fr.refl _ _⟩
            · have d1 : decide ((a.toNat : Int) < 48) = false := decide_eq_false (by omega)
              have d2 : decide ((57 : Int) < (a.toNat : Int)) = false := decide_eq_false (by omega)
              have q1 : IntKind.u64.wrap (10 * (n : Int)) = 10 * (n : Int) := by rw [IntKind.wrap_u64]; omega
              have q2 : IntKind.u8.wrap ((a.toNat : Int) - 48) = (a.toNat : Int) - 48 := by rw [IntKind.wrap_u8]; omega
              have q3 : IntKind.u64.wrap ((a.toNat : Int) - 48) = (a.toNat : Int) - 48 := by rw [IntKind.wrap_u64]; omega
              have q4 : IntKind.u64.wrap (10 * (n : Int) + ((a.toNat : Int) - 48)) = 10 * (n : Int) + ((a.toNat : Int) - 48) := by rw [IntKind.wrap_u64]; omega
              have HNX := Lib.hid (show evalD 0 s.data.toList = evalD (10 * n + (a.toNat - 48)) (s.data.toList.drop (i + 1)) from by rw [HI.out.2.2, HA.out, evalD, if_neg hb])
              have HNB := Lib.hid hb
              clear hb hpw
              go_wp2
              exact ⟨⟨10 * n + (a.toNat - 48), i + 1, by congr 1; have := HNB.out; omega, rfl, by have := HLT.out; omega, by have := HI.out.2.1; have := HNB.out; rw [Nat.pow_succ]; omega, HNX.out, trivial⟩, by have := HLT.out; show s.size - ((i : Int) + 1).toNat < s.size - ((i : Nat) : Int).toNat; omega⟩
          · obtain rfl : i = s.size := by have := HI.out.1; omega
            have hpw : 10 ^ s.size ≤ 10 ^ 19 := Nat.pow_le_pow_right (by decide) hD19
            have hn19 : n < 10000000000000000000 := Nat.lt_of_lt_of_le HI.out.2.1 hpw
            have HEV := Lib.hid (show evalD 0 s.data.toList = some n from by rw [HI.out.2.2, drop_end (Nat.lt_irrefl _)]; rfl)
            clear hpw hlt
            by_cases hz0 : n = 0
            · subst hz0
              have HLW := Lib.hid (whole_law (v := 0) (by rw [← HD.out]; exact HEV.out) (by decide) (by decide) (fun _ _ => rfl) (fun _ _ => rfl))
              have HNU := Lib.hid (numR_any wr 0 (by decide) (by decide))
              go_wp2_with fail
              (with_reducible refine HNU.out.mono ?_)
              rintro e w2 ⟨rfl, f2⟩
              obtain ⟨T, hT⟩ : ∃ T, T = numT 0 := ⟨_, rfl⟩
              rw [← hT]
              have e1 : (T.toList == s.toList) = ok := by rw [toList_beq, hT, HOK.out]; exact HLW.out.1
              clear hT
              go_wp2
              go_ret2
              exact ⟨0, rfl, HLW.out.2, f2⟩
            · have z3 : ((n : Int) == 0) = false := by rw [beq_eq_false_iff_ne]; omega
              obtain ⟨v, hv⟩ : ∃ v, v = IntKind.i64.wrap (n : Int) := ⟨_, rfl⟩
              have hv2 := hv
              rw [IntKind.wrap_i64] at hv2
              have HLW := Lib.hid (whole_law (v := v) (by rw [← HD.out]; exact HEV.out) (by omega) (by omega) (fun _ _ => by omega) (fun q _ => by rw [HNG.out] at q; cases q))
              have HNU := Lib.hid (numR_any wr v (by omega) (by omega))
              have hv3 : IntKind.i64.wrap (n : Int) = v := hv.symm
              clear hz0 hv hv2
              go_wp2_with fail
              (with_reducible refine HNU.out.mono ?_)
              rintro e w2 ⟨rfl, f2⟩
              obtain ⟨T, hT⟩ : ∃ T, T = numT v := ⟨_, rfl⟩
              rw [← hT]
              have e1 : (T.toList == s.toList) = ok := by rw [toList_beq, hT, HOK.out]; exact HLW.out.1
              clear hT
              go_wp2
              go_ret2
              exact ⟨v, rfl, HLW.out.2, f2⟩
end Sc
end Go.Proofs.YtbpgpjibljgiiaaGreatDoor
