/-
  Sets: Count, Del, Least and Free of any number.
-/
import Derived.Test.YtgoolkgjcmdilaaDoorBiB
import Derived.BigRegion
import Derived.LoopN
import Derived.Deep.CutBlock
import Derived.Deep.DeepCutAuto
namespace Go.Proofs.YtgoolkgjcmdilaaDoor
open Go.RowKit
set_option linter.unusedVariables false
set_option linter.unusedSimpArgs false
attribute [local go_sem] Oper.semAt_some

/-- Of how many of the first n it is true. -/
def cntF (f : Nat → Bool) : Nat → Nat
  | 0 => 0
  | n + 1 => cntF f n + (f n).toNat
theorem cntF_head (f : Nat → Bool) : ∀ n, cntF f (n + 1) = (f 0).toNat + cntF (fun j => f (j + 1)) n
  | 0 => by simp [cntF]
  | n + 1 => by
    show cntF f (n + 1) + (f (n + 1)).toNat = _
    rw [cntF_head f n]
    show _ = (f 0).toNat + (cntF (fun j => f (j + 1)) n + (f (n + 1)).toNat)
    omega
theorem cntF_add (f : Nat → Bool) (m : Nat) : ∀ k, cntF f (m + k) = cntF f m + cntF (fun j => f (m + j)) k
  | 0 => by simp [cntF]
  | k + 1 => by
    show cntF f (m + k) + (f (m + k)).toNat = cntF f m + (cntF (fun j => f (m + j)) k + (f (m + k)).toNat)
    rw [cntF_add f m k]
    omega
theorem cntF_ext {f g : Nat → Bool} : ∀ {n}, (∀ j, j < n → f j = g j) → cntF f n = cntF g n
  | 0, _ => rfl
  | n + 1, h => by
    show cntF f n + (f n).toNat = cntF g n + (g n).toNat
    rw [cntF_ext (fun j hj => h j (by omega)), h n (by omega)]
theorem cntF_none {f : Nat → Bool} {m : Nat} : ∀ k, (∀ j, m ≤ j → f j = false) → cntF f (m + k) = cntF f m
  | 0, _ => rfl
  | k + 1, h => by
    show cntF f (m + k) + (f (m + k)).toNat = _
    rw [cntF_none k h, h (m + k) (by omega)]
    rfl
theorem cntF_le (f : Nat → Bool) : ∀ n, cntF f n ≤ n
  | 0 => Nat.le_refl _
  | n + 1 => by
    show cntF f n + (f n).toNat ≤ n + 1
    have := cntF_le f n
    cases f n <;> simp only [Bool.toNat_true, Bool.toNat_false] <;> omega
theorem ds_cnt : ∀ k x : Nat, ds 1 k x = cntF x.testBit k
  | 0, _ => rfl
  | k + 1, x => by
    have h0 : (x.testBit 0).toNat = x % 2 ^ 1 := by
      rw [Nat.testBit_zero]
      have := Nat.mod_lt x (show 0 < 2 by decide)
      rcases Nat.eq_zero_or_pos (x % 2) with h | h
      · simp [h]
      · have : x % 2 = 1 := by omega
        simp [this]
    have h1 : cntF (fun j => x.testBit (j + 1)) k = cntF (x / 2 ^ 1).testBit k := cntF_ext (fun j _ => by rw [Nat.testBit_succ])
    rw [ds_succ, cntF_head, ds_cnt k, h0, h1]
def countB (B : List Bool) : Nat := cntF (fun j => B.getD j false) B.length
theorem countB_le (B : List Bool) : countB B ≤ B.length := cntF_le _ _
theorem getD_out (B : List Bool) (j : Nat) (h : B.length ≤ j) : B.getD j false = false := by simp [List.getD_eq_getElem?_getD, List.getElem?_eq_none h]
theorem countB_up (B : List Bool) (k : Nat) (h : B.length ≤ k) : cntF (fun j => B.getD j false) k = countB B := by
  obtain ⟨d, rfl⟩ : ∃ d, k = B.length + d := ⟨k - B.length, by omega⟩
  exact cntF_none d (fun j hj => getD_out B j hj)
set_option maxRecDepth 100000 in
set_option maxHeartbeats 1000000 in
theorem count_any (w : World) (b : Nat) (v : Value) (B : List Bool) (ws : List Nat) (h : BitsAt w b v B ws) : Calls Tryd.prog 35 #[.pointer (some ⟨b, 0, none⟩)] w fun e w' => e = .returned (.int .i64 (countB B : Nat)) ∧ w = w' := by
  have HH := Lib.hid h
  obtain ⟨g, cap, rfl, h1, h2, h3, h4, h5⟩ := h.row
  have c1 := h.hd.at 1 (v := .slice (some ⟨g, 0, none⟩) ws.length cap) rfl
  obtain ⟨n, hn⟩ : ∃ n, n = ws.length := ⟨_, rfl⟩
  have hn6 : n ≤ 1024 := by rw [hn, h.len]; have := h.lim; omega
  rw [← hn] at c1
  have H5 := Lib.hid (And.intro h5 hn)
  have hup := countB_up B (64 * n) (by rw [hn, h.len]; omega)
  have HU := Lib.hid hup
  clear h h1 h2 h3 h4 h5 hn hup
  go_enter Tryd.func35, Tryd.ntmps35
  go_wp2_with fail
  go_loopw [3, 13] (fun nv iv wr => ∃ i : Nat, iv = .int .i64 i ∧ i ≤ n ∧ nv = .int .i64 (cntF (fun j => B.getD j false) (64 * i) : Nat) ∧ w = wr) (fun _ iv _ => n - (intOf iv).toNat)
  case atStart => exact ⟨0, rfl, Nat.zero_le _, rfl, rfl⟩
  case round =>
    obtain ⟨i, rfl, hi, rfl, rfl⟩ := hrel
    by_cases hin : i < n
    · have c2 := H5.out.1 i (by rw [← H5.out.2]; exact hin)
      obtain ⟨x, hx⟩ : ∃ x, x = ws.getD i 0 := ⟨_, rfl⟩
      have hxl : x < 18446744073709551616 := by rw [hx]; exact HH.out.word i
      rw [← hx] at c2
      have HO := Lib.hid (ones_any w x hxl)
      have hcn : cntF (fun j => B.getD j false) (64 * i) + ds 1 64 x = cntF (fun j => B.getD j false) (64 * (i + 1)) := by
        rw [Nat.mul_add, Nat.mul_one, cntF_add, ds_cnt]
        congr 1
        refine cntF_ext (fun j hj => ?_)
        rw [hx, HH.out.bits i j hj, Nat.mul_comm]
      obtain ⟨a, ha⟩ : ∃ a, a = cntF (fun j => B.getD j false) (64 * i) := ⟨_, rfl⟩
      have hal : a ≤ 64 * i := by rw [ha]; exact cntF_le _ _
      have hdl : ds 1 64 x ≤ 64 := by rw [ds_cnt]; exact cntF_le _ _
      obtain ⟨d, hd⟩ : ∃ d, d = ds 1 64 x := ⟨_, rfl⟩
      rw [← hd] at hdl hcn HO
      rw [← ha] at hcn ⊢
      have HC := Lib.hid hcn
      have g0 : (0 : Int) ≤ (i : Int) := by omega
      have g1 : (i : Int) < (n : Int) := by omega
      clear hx hxl hcn ha hd
      go_wp2_with fail
      (with_reducible refine (HO.out).mono ?_)
      rintro e w1 ⟨rfl, rfl⟩
      go_wp2_with fail
      refine ⟨⟨i + 1, by go_num, by omega, by rw [← HC.out, Int.natCast_add], by first | rfl | trivial⟩, by simp [intOf]; omega⟩
    · obtain rfl : i = n := by omega
      rw [HU.out]
      go_wp2_with fail
      go_ret
      exact ⟨rfl, rfl⟩
theorem count_nil (w : World) : Calls Tryd.prog 35 #[.pointer none] w fun e w' => e = .returned (.int .i64 0) ∧ w = w' := by
  go_enter Tryd.func35, Tryd.ntmps35
  go_wp2
  go_ret
  exact ⟨rfl, rfl⟩
theorem andnot_nat (a b : Nat) (ha : a < 18446744073709551616) (hb : b < 18446744073709551616) : bits BinOp.andNot IntKind.u64 (a : Int) (b : Int) = ((a &&& (18446744073709551615 - b) : Nat) : Int) := by
  have h1 : (BitVec.ofInt 64 (a : Int)).toNat = a := by
    rw [BitVec.ofInt_natCast, BitVec.toNat_ofNat]; exact Nat.mod_eq_of_lt ha
  have h2 : (BitVec.ofInt 64 (b : Int)).toNat = b := by
    rw [BitVec.ofInt_natCast, BitVec.toNat_ofNat]; exact Nat.mod_eq_of_lt hb
  show IntKind.u64.wrap ((BitVec.ofInt 64 (a : Int) &&& ~~~ BitVec.ofInt 64 (b : Int)).toNat : Int) = _
  rw [BitVec.toNat_and, BitVec.toNat_not, h1, h2]
  exact wrU (Nat.lt_of_le_of_lt Nat.and_le_left ha)
theorem not_bit {b j : Nat} (hb : b < 18446744073709551616) (hj : j < 64) : (18446744073709551615 - b).testBit j = !b.testBit j := by
  have h1 : 18446744073709551615 - b = 2 ^ 64 - (b + 1) := by omega
  rw [h1, Nat.testBit_two_pow_sub_succ (by omega)]
  simp [hj]
theorem clear_term {x r : Nat} (hx : x < 18446744073709551616) (h : r < 64) : bits BinOp.andNot IntKind.u64 (x : Int) (IntKind.u64.wrap (2 ^ r)) = ((x &&& (18446744073709551615 - 2 ^ r) : Nat) : Int) := by
  rw [pow_term h, andnot_nat _ _ hx (pow_lt h)]
theorem clear_bit {x r j : Nat} (h : r < 64) (hj : j < 64) : (x &&& (18446744073709551615 - 2 ^ r)).testBit j = if j = r then false else x.testBit j := by
  rw [Nat.testBit_and, not_bit (pow_lt h) hj, Nat.testBit_two_pow]
  by_cases hjr : j = r
  · rw [if_pos hjr, hjr]; simp
  · rw [if_neg hjr, decide_eq_false (fun e => hjr e.symm)]; simp
set_option maxRecDepth 100000 in
set_option maxHeartbeats 1000000 in
theorem bdel_yes (w : World) (b : Nat) (v : Value) (B : List Bool) (ws : List Nat) (i : Nat) (h : BitsAt w b v B ws) (hi : i < B.length) (hB : B.getD i false = true) :
    Calls Tryd.prog 80 #[.pointer (some ⟨b, 0, none⟩), .int .i64 (i : Nat)] w fun e w' => e = .returned (.bool true) ∧ ∃ ws', BitsAt w' b v (B.set i false) ws' ∧ Fr v.ownBlock.toList w w' := by
  have HH := Lib.hid h
  have hH := has_in w b v B ws i h hi
  rw [hB] at hH
  have HHS := Lib.hid hH
  obtain ⟨g, cap, rfl, h1, h2, h3, h4, h5⟩ := h.row
  have c1 := h.hd.at 1 (v := .slice (some ⟨g, 0, none⟩) ws.length cap) rfl
  have hk : i / 64 < ws.length := by rw [h.len]; omega
  have c2 := h5 _ hk
  obtain ⟨n, hn⟩ : ∃ n, n = ws.length := ⟨_, rfl⟩
  rw [← hn] at c1 hk
  obtain ⟨q, hq⟩ : ∃ q, q = i / 64 := ⟨_, rfl⟩
  obtain ⟨r, hr⟩ : ∃ r, r = i % 64 := ⟨_, rfl⟩
  have e1 := q64 (i := i) (Nat.le_trans (Nat.le_of_lt hi) h.lim)
  have e2 := r64 i
  have hr6 : r < 64 := by rw [hr]; exact Nat.mod_lt _ (by decide)
  rw [← hq] at e1
  rw [← hr] at e2
  rw [← hq] at c2 hk
  obtain ⟨x, hx⟩ : ∃ x, x = ws.getD q 0 := ⟨_, rfl⟩
  rw [← hx] at c2
  have g0 : (0 : Int) ≤ (q : Int) := Int.natCast_nonneg q
  have g1 : (q : Int) < (n : Int) := Int.ofNat_lt.2 hk
  have fz := h4 q
  have HN := Lib.hid (And.intro hn (And.intro hq (And.intro hr (And.intro hx (And.intro hk (And.intro hi hB))))))
  clear h h1 h2 h3 h4 h5 hn hq hr hx hk hi hB hH
  go_enter Tryd.func80, Tryd.ntmps80
  go_wp2_with fail
  (with_reducible refine (HHS.out).mono ?_)
  rintro e w1 ⟨rfl, rfl⟩
  go_wp2_with fail
  go_region
  simp only [Exit.then]
  go_wp2
  go_ret
  obtain ⟨hn, hq, hr, hx, hk, hi, hB⟩ := HN.out
  have hxl : x < 18446744073709551616 := by rw [hx]; exact HH.out.word q
  refine ⟨rfl, ws.set (i / 64) (x &&& (18446744073709551615 - 2 ^ r)), ?_, ?_⟩
  · have hu := HH.out.upd (g := g) hi rfl false (x &&& (18446744073709551615 - 2 ^ r)) (Nat.lt_of_le_of_lt Nat.and_le_left hxl) (fun j hj => by rw [clear_bit hr6 hj, ← hr, ← hq, ← hx])
    rw [clear_term hxl hr6, hq]
    exact hu.drew
  · exact ((Fr.refl _ w).setCell _ _ (.inl (by simp [Value.ownBlock]))).drew
set_option maxRecDepth 100000 in
set_option maxHeartbeats 1000000 in
theorem firstF (w : World) (b : Nat) (v : Value) (B : List Bool) (ws : List Nat) (f : Int) (hf0 : f < 0) (k : Nat) (hkz : k = 0) (c : Bool) (h : BitsAt w b v B ws) (hT : DeB w) (hk63 : k ≤ 4611686018427387904) :
    Calls Tryd.prog 92 #[.pointer (some ⟨b, 0, none⟩), .int .i64 f, .bool c] w (FirstP w B k c) := by
  have HH := Lib.hid h
  have HT := Lib.hid hT
  have c0 := h.hd.at 0 (v := .int .i64 B.length) rfl
  obtain ⟨g, cap, rfl, h1, h2, h3, h4, h5⟩ := h.row
  have c1 := h.hd.at 1 (v := .slice (some ⟨g, 0, none⟩) ws.length cap) rfl
  obtain ⟨n, hn⟩ : ∃ n, n = B.length := ⟨_, rfl⟩
  obtain ⟨m, hm⟩ : ∃ m, m = ws.length := ⟨_, rfl⟩
  rw [← hn] at c0
  rw [← hm] at c1
  have H5 := Lib.hid h5
  have HN := Lib.hid (And.intro hn (And.intro hm (show n ≤ 65536 from hn ▸ h.lim)))
  clear h h1 h2 h3 h4 h5 hT hn hm
  go_enter Tryd.func92, Tryd.ntmps92
  go_wp2_with fail
  (with_reducible refine (blive_any _ b _ B ws HH.out).mono ?_)
  rintro e w1 ⟨rfl, rfl⟩
  go_wp2_with fail
  go_loopw [7, 8] (fun iw xw wr => ∃ i : Nat, iw = .int .i64 i ∧ k ≤ i ∧ i ≤ 4611686018427387968 ∧ (∀ j, k ≤ j → j < i → j < n → B.getD j false ≠ c) ∧ w = wr) (fun iw _ _ => n - (intOf iw).toNat)
  case atStart => exact ⟨0, rfl, by omega, by omega, fun j a b _ => absurd b (by omega), rfl⟩
  case round =>
    obtain ⟨i, rfl, hki, hi63, hno, rfl⟩ := hrel
    have HNO := Lib.hid (And.intro hki hno)
    clear hki hno
    by_cases hin : i < n
    · have hiB : i < B.length := by rw [← HN.out.1]; exact hin
      have hk : i / 64 < ws.length := by rw [HH.out.len]; exact div_lt_up hiB
      have c2 := H5.out _ hk
      have hxl := HH.out.word (i / 64)
      obtain ⟨q, hq⟩ : ∃ q, q = i / 64 := ⟨_, rfl⟩
      obtain ⟨r, hr⟩ : ∃ r, r = i % 64 := ⟨_, rfl⟩
      have e1 := d64 i
      have e2 := r64 i
      have hr6 : r < 64 := by rw [hr]; exact Nat.mod_lt _ (by decide)
      rw [← hq] at e1 c2 hk hxl
      rw [← hr] at e2
      rw [← HN.out.2.1] at hk
      obtain ⟨x, hx⟩ : ∃ x, x = ws.getD q 0 := ⟨_, rfl⟩
      rw [← hx] at c2 hxl
      have g0 : (0 : Int) ≤ (q : Int) := Int.natCast_nonneg q
      have g1 : (q : Int) < (m : Int) := Int.ofNat_lt.2 hk
      have g2 : (i : Int) < (n : Int) := Int.ofNat_lt.2 hin
      have HX := Lib.hid (And.intro hq (And.intro hr (And.intro hx (And.intro hxl (And.intro hr6 (And.intro hin hiB))))))
      clear hq hr hx hxl hr6 hk hin hiB
      cases c with
      | true =>
        have hlk := HH.out.look true i
        rw [← HX.out.1, ← HX.out.2.2.1] at hlk
        have hxl := HX.out.2.2.2.1
        have ey : yw x true = x := rfl
        rw [ey] at hlk
        have ez := div_cast x (i % 64)
        rw [← HX.out.2.1] at ez
        obtain ⟨z, hz⟩ : ∃ z, z = x / 2 ^ r := ⟨_, rfl⟩
        rw [← HX.out.2.1, ← hz] at hlk
        rw [← hz] at ez
        have HL := Lib.hid hlk
        clear hlk hxl hz
        by_cases hz0 : z = 0
        · subst hz0
          obtain ⟨p, hp, hp6, hx1⟩ := round_none HN.out.1 HNO.out.1 HNO.out.2 HL.out HX.out.2.2.2.2.2.1 HN.out.2.2
          have o63 := or_term63 (i := i) (Nat.le_trans (Nat.le_of_lt HX.out.2.2.2.2.2.1) HN.out.2.2)
          rw [← hp] at o63
          have HPP := Lib.hid hx1
          clear hp hx1
          go_wp2_with fail
          clear o63 ez e1 e2 g0 g1 g2
          obtain ⟨hq1, hq2, hq3, hq4⟩ := HPP.out
          exact ⟨⟨p + 1, by go_num, hq1, hq2, hq3, by first | rfl | trivial⟩, by simpa [intOf] using hq4⟩
        · obtain ⟨t, ht⟩ := low_ex hz0
          have hz1 := nz_cast hz0
          have HTZ := Lib.hid (tz_any w z t HL.out.zl ht HT.out)
          have hh := round_some HN.out.1 HNO.out.1 HNO.out.2 HL.out ht HX.out.2.2.2.2.2.1 HN.out.2.2
          have HR := Lib.hid hh
          have hb := hh.1
          clear hh ht hz0
          go_wp2_with fail
          (with_reducible refine (HTZ.out).mono ?_)
          rintro e w1 ⟨rfl, rfl⟩
          by_cases hit : i + t < n
          · have hit2 := lt_cast hit
            go_wp2_with fail
            go_ret
            exact ⟨_, rfl, HR.out.2.1 hit, rfl⟩
          · have hit2 := nlt_cast hit
            go_wp2_with fail
            go_ret
            exact ⟨_, rfl, HR.out.2.2 hit, rfl⟩
      | false =>
        have hlk := HH.out.look false i
        rw [← HX.out.1, ← HX.out.2.2.1] at hlk
        have hxl := HX.out.2.2.2.1
        have hsg : IntKind.u64.signed = false := rfl
        have hxo := xor_term hxl
        obtain ⟨y, hy⟩ : ∃ y, y = yw x false := ⟨_, rfl⟩
        rw [← hy] at hlk hxo
        clear hy
        have ez := div_cast y (i % 64)
        rw [← HX.out.2.1] at ez
        obtain ⟨z, hz⟩ : ∃ z, z = y / 2 ^ r := ⟨_, rfl⟩
        rw [← HX.out.2.1, ← hz] at hlk
        rw [← hz] at ez
        have HL := Lib.hid hlk
        clear hlk hxl hz
        by_cases hz0 : z = 0
        · subst hz0
          obtain ⟨p, hp, hp6, hx1⟩ := round_none HN.out.1 HNO.out.1 HNO.out.2 HL.out HX.out.2.2.2.2.2.1 HN.out.2.2
          have o63 := or_term63 (i := i) (Nat.le_trans (Nat.le_of_lt HX.out.2.2.2.2.2.1) HN.out.2.2)
          rw [← hp] at o63
          have HPP := Lib.hid hx1
          clear hp hx1
          go_wp2_with fail
          clear o63 ez e1 e2 g0 g1 g2
          obtain ⟨hq1, hq2, hq3, hq4⟩ := HPP.out
          exact ⟨⟨p + 1, by go_num, hq1, hq2, hq3, by first | rfl | trivial⟩, by simpa [intOf] using hq4⟩
        · obtain ⟨t, ht⟩ := low_ex hz0
          have hz1 := nz_cast hz0
          have HTZ := Lib.hid (tz_any w z t HL.out.zl ht HT.out)
          have hh := round_some HN.out.1 HNO.out.1 HNO.out.2 HL.out ht HX.out.2.2.2.2.2.1 HN.out.2.2
          have HR := Lib.hid hh
          have hb := hh.1
          clear hh ht hz0
          go_wp2_with fail
          (with_reducible refine (HTZ.out).mono ?_)
          rintro e w1 ⟨rfl, rfl⟩
          by_cases hit : i + t < n
          · have hit2 := lt_cast hit
            go_wp2_with fail
            go_ret
            exact ⟨_, rfl, HR.out.2.1 hit, rfl⟩
          · have hit2 := nlt_cast hit
            go_wp2_with fail
            go_ret
            exact ⟨_, rfl, HR.out.2.2 hit, rfl⟩
    · have g1 : ¬ (i : Int) < (n : Int) := by omega
      go_wp2_with fail
      go_ret
      exact ⟨-1, rfl, .inr ⟨rfl, fun j a b => HNO.out.2 j (by omega) (Nat.lt_of_lt_of_le (HN.out.1 ▸ b) (Nat.le_of_not_lt hin)) (HN.out.1 ▸ b)⟩, rfl⟩
/-- What first answers, looking from any number on. -/
theorem firstZ_any (w : World) (b : Nat) (v : Value) (B : List Bool) (ws : List Nat) (k : Int) (c : Bool) (h : BitsAt w b v B ws) (hT : DeB w) :
    Calls Tryd.prog 92 #[.pointer (some ⟨b, 0, none⟩), .int .i64 k, .bool c] w (FirstP w B k.toNat c) := by
  by_cases h2 : k ≤ 4611686018427387904
  · by_cases h3 : k < 0
    · exact firstF w b v B ws k h3 k.toNat (by omega) c h hT (by omega)
    · obtain ⟨m, rfl⟩ : ∃ m : Nat, k = m := ⟨k.toNat, by omega⟩
      rw [Int.toNat_natCast]
      exact first_pos w b v B ws m c h hT (by omega)
  · have HB := Lib.hid (blive_any w b v B ws h)
    have c0 := h.hd.at 0 (v := .int .i64 B.length) rfl
    have hl := h.lim
    have hnl : ¬ k < (B.length : Int) := by omega
    have hk0 : ¬ k < 0 := by omega
    have hno : FirstAt B k.toNat c (-1) := .inr ⟨rfl, fun j a b => by omega⟩
    have HN := Lib.hid hno
    obtain ⟨n, hn⟩ : ∃ n, n = B.length := ⟨_, rfl⟩
    rw [← hn] at c0 hnl hl
    clear h hT hno hn
    go_enter Tryd.func92, Tryd.ntmps92
    go_wp2_with fail
    (with_reducible refine (HB.out).mono ?_)
    rintro e w1 ⟨rfl, rfl⟩
    go_wp2_with fail
    refine wp_loop_rounds 1 ?_
    rw [rounds_succ]
    go_wp2
    go_ret
    exact ⟨-1, rfl, HN.out, rfl⟩
theorem leastZ_any (w : World) (b : Nat) (v : Value) (B : List Bool) (ws : List Nat) (k : Int) (h : BitsAt w b v B ws) (hT : DeB w) : Calls Tryd.prog 36 #[.pointer (some ⟨b, 0, none⟩), .int .i64 k] w (FirstP w B k.toNat true) := by
  have HL := Lib.hid (firstZ_any w b v B ws k true h hT)
  clear h hT
  go_enter Tryd.func36, Tryd.ntmps36
  go_wp2_with fail
  (with_reducible refine (HL.out).mono ?_)
  rintro e w1 ⟨a, rfl, ha, rfl⟩
  have HA := Lib.hid ha
  clear ha
  go_wp2_with fail
  go_ret
  exact ⟨a, rfl, HA.out, rfl⟩
theorem freeZ_any (w : World) (b : Nat) (v : Value) (B : List Bool) (ws : List Nat) (k : Int) (h : BitsAt w b v B ws) (hT : DeB w) : Calls Tryd.prog 37 #[.pointer (some ⟨b, 0, none⟩), .int .i64 k] w (FirstP w B k.toNat false) := by
  have HL := Lib.hid (firstZ_any w b v B ws k false h hT)
  clear h hT
  go_enter Tryd.func37, Tryd.ntmps37
  go_wp2_with fail
  (with_reducible refine (HL.out).mono ?_)
  rintro e w1 ⟨a, rfl, ha, rfl⟩
  have HA := Lib.hid ha
  clear ha
  go_wp2_with fail
  go_ret
  exact ⟨a, rfl, HA.out, rfl⟩
end Go.Proofs.YtgoolkgjcmdilaaDoor
