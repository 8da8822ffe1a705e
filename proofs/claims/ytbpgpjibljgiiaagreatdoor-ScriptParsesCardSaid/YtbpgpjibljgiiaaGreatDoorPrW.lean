/-
  Script: Print. Printed by genPw.py.
-/
import Derived.Test.YtbpgpjibljgiiaaGreatDoorBldM
import Derived.Test.YtbpgpjibljgiiaaGreatDoorParB
import Derived.Test.YtbpgpjibljgiiaaGreatDoorRcM
namespace Go.Proofs.YtbpgpjibljgiiaaGreatDoor
open Go.RowKit
set_option linter.unusedVariables false
set_option linter.unusedSimpArgs false
attribute [local go_sem] Oper.semAt_some
attribute [local go_sem ↓] loadVar29 storeVar29
attribute [local go_sem] run_loadScr run_storeScr
namespace Sc
attribute [local go_sem] run_as1 run_as2 run_as3 run_nums0 run_nums1 run_nums2 run_nums3 run_nums4 run_nums5 run_nums6 run_nums7 run_nums8 run_nums9 run_nums10
theorem fr_steps {W W' : World} {n0 : Nat} {v : Value} {C : List (St × Value)} (h : StepsV W n0 v C) (f : Fr [] W W') : StepsV W' n0 v C := h.fr f
theorem fmt_any (w : World) (n : Int) (h0 : -9223372036854775808 ≤ n) (h1 : n ≤ 9223372036854775807) (hw : TB w) : Calls Tryz.prog 27 #[.int .i64 n, .int .i64 10] w fun e w' => e = .returned (.string (numT n)) ∧ Fr [] w w' :=
  (Tryz.strconv_FormatInt_10 n h0 h1 w hw).mono fun e w' ⟨h, k, os, h2⟩ => ⟨h, by rw [h2]; exact fr_grow w k os⟩
set_option maxRecDepth 100000 in
set_option maxHeartbeats 16000000 in
theorem print_any (w : World) (n0 : Nat) (v0 v1 v2 v3 v4 v5 v6 v7 v8 v9 v10 : Int) (hcfg : ∀ n ∈ [v0, v1, v2, v3, v4, v5, v6, v7, v8, v9, v10], -9223372036854775808 ≤ n ∧ n ≤ 9223372036854775807) (v : Value) (C : List (St × Value)) (hv : StepsV w n0 v C) (hst : ∀ x ∈ C, StI x.1) (hn : C.length ≤ 2513169434917) (htb : TB w) :
    Calls Tryz.prog 8 #[.agg #[.int .i64 v0, .int .i64 v1, .int .i64 v2, .int .i64 v3, .int .i64 v4, .int .i64 v5, .int .i64 v6, .int .i64 v7, .int .i64 v8, .int .i64 v9, .int .i64 v10, v]] w fun e w' => e = .returned (.tuple #[.string (printX [v0, v1, v2, v3, v4, v5, v6, v7, v8, v9, v10] (C.map Prod.fst)), .int .i64 (printE [v0, v1, v2, v3, v4, v5, v6, v7, v8, v9, v10] (C.map Prod.fst))]) ∧ Fr [] w w' := by
  obtain ⟨R, hR⟩ : ∃ R, R = printX [v0, v1, v2, v3, v4, v5, v6, v7, v8, v9, v10] (C.map Prod.fst) := ⟨_, rfl⟩
  obtain ⟨E, hE⟩ : ∃ E, E = printE [v0, v1, v2, v3, v4, v5, v6, v7, v8, v9, v10] (C.map Prod.fst) := ⟨_, rfl⟩
  rw [← hR, ← hE]
  have HRE := Lib.hid (And.intro hR hE)
  obtain ⟨p, c, rfl⟩ := own_form hv.own
  have HV := Lib.hid (And.intro hv (And.intro hst hn))
  have HCF := Lib.hid hcfg
  have HTB := Lib.hid htb
  obtain ⟨N, hN⟩ : ∃ N, N = C.length := ⟨_, rfl⟩
  have HN := Lib.hid hN
  rw [← hN]
  have kN : (N : Int) ≤ 2513169434917 := by omega
  obtain ⟨w0, hw0⟩ : ∃ w0, w.alloc (.cells #[.int .i64 v0, .int .i64 v1, .int .i64 v2, .int .i64 v3, .int .i64 v4, .int .i64 v5, .int .i64 v6, .int .i64 v7, .int .i64 v8, .int .i64 v9, .int .i64 v10, .slice p N c] 26) = w0 := ⟨_, rfl⟩
  obtain ⟨bx, hbx⟩ : ∃ bx, bx = w.heap.size := ⟨_, rfl⟩
  have H0 := Lib.hid (show Blk w0 bx #[.int .i64 v0, .int .i64 v1, .int .i64 v2, .int .i64 v3, .int .i64 v4, .int .i64 v5, .int .i64 v6, .int .i64 v7, .int .i64 v8, .int .i64 v9, .int .i64 v10, .slice p N c] 26 ∧ Fr [] w w0 by rw [← hw0]; exact ⟨Blk.new_at hbx _ _, (Fr.refl _ _).alloc _⟩)
  have HW0 := Lib.hid hw0
  have HBX := Lib.hid hbx
  have q1 := H0.out.1.scr rfl
  obtain ⟨E1, hE1⟩ : ∃ E1, E1 = checkE [v0, v1, v2, v3, v4, v5, v6, v7, v8, v9, v10] (C.map Prod.fst) := ⟨_, rfl⟩
  have HE1 := Lib.hid hE1
  have HCK := Lib.hid (check_any w0 n0 v0 v1 v2 v3 v4 v5 v6 v7 v8 v9 v10 (.slice p C.length c) C (hv.fr H0.out.2) (fun x hx => (hst x hx).1) hn)
  rw [← hE1, ← hN] at HCK
  clear hR hE hv hst hcfg hw0 hn hN hbx hE1 htb
  go_enter Tryz.func8, Tryz.ntmps8
  go_upto_region 1 with fail
  rw [HW0.out, ← HBX.out]
  go_wp2_with fail
  (with_reducible refine HCK.out.mono ?_)
  rintro e w1 ⟨rfl, f1⟩
  have H1 := Lib.hid (show Blk w1 bx #[.int .i64 v0, .int .i64 v1, .int .i64 v2, .int .i64 v3, .int .i64 v4, .int .i64 v5, .int .i64 v6, .int .i64 v7, .int .i64 v8, .int .i64 v9, .int .i64 v10, .slice p N c] 26 ∧ Fr [] w w1 from ⟨f1.blk H0.out.1 (by simp), H0.out.2.trans f1 (by simp)⟩)
  clear f1 q1
  by_cases hz : E1 = 0
  · have z1 : (E1 != 0) = false := by rw [hz]; rfl
    have HZ := Lib.hid (show checkE [v0, v1, v2, v3, v4, v5, v6, v7, v8, v9, v10] (C.map Prod.fst) = 0 by rw [← HE1.out]; exact hz)
    clear hz
    obtain ⟨b, hb⟩ : ∃ b, b = w1.heap.size := ⟨_, rfl⟩
    obtain ⟨w2, hw2⟩ : ∃ w2, w1.alloc (.cells #[.pointer none, .slice none 0 0] 73) = w2 := ⟨_, rfl⟩
    have hbq : BQ w2 w.heap.size b [] := by rw [← hw2, hb]; exact BQ.new H1.out.2.size
    have H2 := Lib.hid (show BQ w2 w.heap.size b [] ∧ Blk w2 bx #[.int .i64 v0, .int .i64 v1, .int .i64 v2, .int .i64 v3, .int .i64 v4, .int .i64 v5, .int .i64 v6, .int .i64 v7, .int .i64 v8, .int .i64 v9, .int .i64 v10, .slice p N c] 26 ∧ Fr [] w w2 ∧ bx ≠ b from ⟨hbq, by rw [← hw2]; exact H1.out.1.alloc _, by rw [← hw2]; exact H1.out.2.alloc _, by have := H1.out.1.lt; omega⟩)
    have HW2 := Lib.hid (And.intro hw2 hb)
    have HQ0 := Lib.hid (show Calls Tryz.prog 23 #[.pointer (some ⟨b, 0, none⟩), .string ⟨#[112, 97, 100, 100, 111, 99, 107, 32, 49, 10, 99, 111, 110, 102, 105, 103]⟩] w2 fun e w' => e = .returned (.tuple #[.int .i64 16, .nilIface]) ∧ BQ w' w.heap.size b pName ∧ BF w.heap.size b w2 w' from bq_write hbq ⟨#[112, 97, 100, 100, 111, 99, 107, 32, 49, 10, 99, 111, 110, 102, 105, 103]⟩ (by decide))
    clear hbq hw2 hb
    go_upto_region 5 with fail
    rw [HW2.out.1, ← HW2.out.2]
    go_wp2_with fail
    (with_reducible refine HQ0.out.mono ?_)
    rintro e w3 ⟨rfl, hq3, hf3⟩
    have H3 := Lib.hid (show BQ w3 w.heap.size b pName ∧ Blk w3 bx #[.int .i64 v0, .int .i64 v1, .int .i64 v2, .int .i64 v3, .int .i64 v4, .int .i64 v5, .int .i64 v6, .int .i64 v7, .int .i64 v8, .int .i64 v9, .int .i64 v10, .slice p N c] 26 ∧ Fr [] w w3 ∧ bx ≠ b from ⟨hq3, hf3.blk H2.out.2.1 (by decide) H2.out.2.2.2, hf3.fr H2.out.2.2.1, H2.out.2.2.2⟩)
    clear hq3 hf3
    go_wp2_with fail
    (with_reducible refine (numbers_any w3 bx).mono ?_)
    rintro e w4 ⟨rfl, f4⟩
    unfold numsV
    have H4 := Lib.hid (show BQ w4 w.heap.size b (pName ++ pNums ([v0, v1, v2, v3, v4, v5, v6, v7, v8, v9, v10].take 0)) ∧ Blk w4 bx #[.int .i64 v0, .int .i64 v1, .int .i64 v2, .int .i64 v3, .int .i64 v4, .int .i64 v5, .int .i64 v6, .int .i64 v7, .int .i64 v8, .int .i64 v9, .int .i64 v10, .slice p N c] 26 ∧ Fr [] w w4 ∧ bx ≠ b from ⟨by simpa [pNums] using H3.out.1.fr f4, f4.blk H3.out.2.1 (by simp), H3.out.2.2.1.trans f4 (by simp), H3.out.2.2.2⟩)
    clear f4
    go_wp2_with fail
    go_loopw [22] (fun iv wr => ∃ i : Nat, iv = .int .i64 i ∧ i ≤ 11 ∧ BQ wr w.heap.size b (pName ++ pNums ([v0, v1, v2, v3, v4, v5, v6, v7, v8, v9, v10].take i)) ∧ Blk wr bx #[.int .i64 v0, .int .i64 v1, .int .i64 v2, .int .i64 v3, .int .i64 v4, .int .i64 v5, .int .i64 v6, .int .i64 v7, .int .i64 v8, .int .i64 v9, .int .i64 v10, .slice p N c] 26 ∧ Fr [] w wr ∧ bx ≠ b) (fun iv _ => 11 - (match iv with | .int _ q => q.toNat | _ => 0))
    case atStart => exact ⟨0, rfl, Nat.zero_le _, H4.out⟩
    case round =>
      obtain ⟨i, rfl, hi, hI⟩ := hrel
      obtain ⟨wi, hwi⟩ : ∃ wi : World, wi = wr := ⟨_, rfl⟩
      rw [← hwi] at hI ⊢
      clear hwi
      obtain ⟨P, hP⟩ : ∃ P, P = pName ++ pNums ([v0, v1, v2, v3, v4, v5, v6, v7, v8, v9, v10].take i) := ⟨_, rfl⟩
      rw [← hP] at hI
      have HI := Lib.hid hI
      have HPL := Lib.hid (show P.length ≤ 300 from by
        rw [hP, List.length_append]
        have h1 := pNums_len ([v0, v1, v2, v3, v4, v5, v6, v7, v8, v9, v10].take i) (fun n hn => HCF.out n (List.mem_of_mem_take hn))
        have h2 : ([v0, v1, v2, v3, v4, v5, v6, v7, v8, v9, v10].take i).length ≤ 11 := by rw [List.length_take]; simp; omega
        have h3 : pName.length = 16 := rfl
        omega)
      have HP := Lib.hid hP
      clear hI hP
      have hcs : i = 0 ∨ i = 1 ∨ i = 2 ∨ i = 3 ∨ i = 4 ∨ i = 5 ∨ i = 6 ∨ i = 7 ∨ i = 8 ∨ i = 9 ∨ i = 10 ∨ i = 11 := by omega
      clear hi
      rcases hcs with rfl | rfl | rfl | rfl | rfl | rfl | rfl | rfl | rfl | rfl | rfl | rfl
      · have h0 := HCF.out v0 (by simp)
        have HQ1 := Lib.hid (show Calls Tryz.prog 25 #[.pointer (some ⟨b, 0, none⟩), .int .u8 32] wi fun e w' => e = .returned .nilIface ∧ BQ w' w.heap.size b (P ++ [32]) ∧ BF w.heap.size b wi w' from bq_byte HI.out.1 32 (by have := HPL.out; omega))
        go_wp2_with fail
        (with_reducible refine HQ1.out.mono ?_)
        rintro e wA ⟨rfl, hqA, hfA⟩
        have HA := Lib.hid (show BQ wA w.heap.size b (P ++ [32]) ∧ Blk wA bx #[.int .i64 v0, .int .i64 v1, .int .i64 v2, .int .i64 v3, .int .i64 v4, .int .i64 v5, .int .i64 v6, .int .i64 v7, .int .i64 v8, .int .i64 v9, .int .i64 v10, .slice p N c] 26 ∧ Fr [] w wA from ⟨hqA, hfA.blk HI.out.2.1 (by decide) HI.out.2.2.2, hfA.fr HI.out.2.2.1⟩)
        have cc := HA.out.2.1.at 0 (v := .int .i64 v0) rfl
        have HIT := Lib.hid (itoa_any wA v0 h0.1 h0.2 (HTB.out.fr HA.out.2.2 (by simp)))
        obtain ⟨X, hX⟩ : ∃ X, X = numT v0 := ⟨_, rfl⟩
        have hxs : X.size ≤ 20 := by rw [hX]; exact numT_short _ h0.1 h0.2
        rw [← hX] at HIT
        have HX := Lib.hid (And.intro hX hxs)
        clear hqA hfA hX hxs h0
        go_wp2_with fail
        (with_reducible refine HIT.out.mono ?_)
        rintro e wB ⟨rfl, fB⟩
        have HQ2 := Lib.hid (bq_write (HA.out.1.fr fB) X (by have := HPL.out; have := HX.out.2; rw [List.length_append]; simp; omega))
        have HB := Lib.hid (show Blk wB bx #[.int .i64 v0, .int .i64 v1, .int .i64 v2, .int .i64 v3, .int .i64 v4, .int .i64 v5, .int .i64 v6, .int .i64 v7, .int .i64 v8, .int .i64 v9, .int .i64 v10, .slice p N c] 26 ∧ Fr [] w wB from ⟨fB.blk HA.out.2.1 (by simp), HA.out.2.2.trans fB (by simp)⟩)
        clear fB cc
        go_wp2_with fail
        (with_reducible refine HQ2.out.mono ?_)
        rintro e wC ⟨rfl, hqC, hfC⟩
        have HC := Lib.hid (show BQ wC w.heap.size b (pName ++ pNums ([v0, v1, v2, v3, v4, v5, v6, v7, v8, v9, v10].take 1)) ∧ Blk wC bx #[.int .i64 v0, .int .i64 v1, .int .i64 v2, .int .i64 v3, .int .i64 v4, .int .i64 v5, .int .i64 v6, .int .i64 v7, .int .i64 v8, .int .i64 v9, .int .i64 v10, .slice p N c] 26 ∧ Fr [] w wC ∧ bx ≠ b from ⟨by
          have e : P ++ [32] ++ X.data.toList = pName ++ pNums ([v0, v1, v2, v3, v4, v5, v6, v7, v8, v9, v10].take 1) := by rw [HP.out, HX.out.1]; simp [pNums]
          rw [← e]; exact hqC, hfC.blk HB.out.1 (by decide) HI.out.2.2.2, hfC.fr HB.out.2, HI.out.2.2.2⟩)
        clear hqC hfC
        go_wp2
        exact ⟨⟨1, rfl, by omega, HC.out⟩, by decide⟩
      · have h1 := HCF.out v1 (by simp)
        have HQ1 := Lib.hid (show Calls Tryz.prog 25 #[.pointer (some ⟨b, 0, none⟩), .int .u8 32] wi fun e w' => e = .returned .nilIface ∧ BQ w' w.heap.size b (P ++ [32]) ∧ BF w.heap.size b wi w' from bq_byte HI.out.1 32 (by have := HPL.out; omega))
        go_wp2_with fail
        (with_reducible refine HQ1.out.mono ?_)
        rintro e wA ⟨rfl, hqA, hfA⟩
        have HA := Lib.hid (show BQ wA w.heap.size b (P ++ [32]) ∧ Blk wA bx #[.int .i64 v0, .int .i64 v1, .int .i64 v2, .int .i64 v3, .int .i64 v4, .int .i64 v5, .int .i64 v6, .int .i64 v7, .int .i64 v8, .int .i64 v9, .int .i64 v10, .slice p N c] 26 ∧ Fr [] w wA from ⟨hqA, hfA.blk HI.out.2.1 (by decide) HI.out.2.2.2, hfA.fr HI.out.2.2.1⟩)
        have cc := HA.out.2.1.at 1 (v := .int .i64 v1) rfl
        have HIT := Lib.hid (itoa_any wA v1 h1.1 h1.2 (HTB.out.fr HA.out.2.2 (by simp)))
        obtain ⟨X, hX⟩ : ∃ X, X = numT v1 := ⟨_, rfl⟩
        have hxs : X.size ≤ 20 := by rw [hX]; exact numT_short _ h1.1 h1.2
        rw [← hX] at HIT
        have HX := Lib.hid (And.intro hX hxs)
        clear hqA hfA hX hxs h1
        go_wp2_with fail
        (with_reducible refine HIT.out.mono ?_)
        rintro e wB ⟨rfl, fB⟩
        have HQ2 := Lib.hid (bq_write (HA.out.1.fr fB) X (by have := HPL.out; have := HX.out.2; rw [List.length_append]; simp; omega))
        have HB := Lib.hid (show Blk wB bx #[.int .i64 v0, .int .i64 v1, .int .i64 v2, .int .i64 v3, .int .i64 v4, .int .i64 v5, .int .i64 v6, .int .i64 v7, .int .i64 v8, .int .i64 v9, .int .i64 v10, .slice p N c] 26 ∧ Fr [] w wB from ⟨fB.blk HA.out.2.1 (by simp), HA.out.2.2.trans fB (by simp)⟩)
        clear fB cc
        go_wp2_with fail
        (with_reducible refine HQ2.out.mono ?_)
        rintro e wC ⟨rfl, hqC, hfC⟩
        have HC := Lib.hid (show BQ wC w.heap.size b (pName ++ pNums ([v0, v1, v2, v3, v4, v5, v6, v7, v8, v9, v10].take 2)) ∧ Blk wC bx #[.int .i64 v0, .int .i64 v1, .int .i64 v2, .int .i64 v3, .int .i64 v4, .int .i64 v5, .int .i64 v6, .int .i64 v7, .int .i64 v8, .int .i64 v9, .int .i64 v10, .slice p N c] 26 ∧ Fr [] w wC ∧ bx ≠ b from ⟨by
          have e : P ++ [32] ++ X.data.toList = pName ++ pNums ([v0, v1, v2, v3, v4, v5, v6, v7, v8, v9, v10].take 2) := by rw [HP.out, HX.out.1]; simp [pNums]
          rw [← e]; exact hqC, hfC.blk HB.out.1 (by decide) HI.out.2.2.2, hfC.fr HB.out.2, HI.out.2.2.2⟩)
        clear hqC hfC
        go_wp2
        exact ⟨⟨2, rfl, by omega, HC.out⟩, by decide⟩
      · have h2 := HCF.out v2 (by simp)
        have HQ1 := Lib.hid (show Calls Tryz.prog 25 #[.pointer (some ⟨b, 0, none⟩), .int .u8 32] wi fun e w' => e = .returned .nilIface ∧ BQ w' w.heap.size b (P ++ [32]) ∧ BF w.heap.size b wi w' from bq_byte HI.out.1 32 (by have := HPL.out; omega))
        go_wp2_with fail
        (with_reducible refine HQ1.out.mono ?_)
        rintro e wA ⟨rfl, hqA, hfA⟩
        have HA := Lib.hid (show BQ wA w.heap.size b (P ++ [32]) ∧ Blk wA bx #[.int .i64 v0, .int .i64 v1, .int .i64 v2, .int .i64 v3, .int .i64 v4, .int .i64 v5, .int .i64 v6, .int .i64 v7, .int .i64 v8, .int .i64 v9, .int .i64 v10, .slice p N c] 26 ∧ Fr [] w wA from ⟨hqA, hfA.blk HI.out.2.1 (by decide) HI.out.2.2.2, hfA.fr HI.out.2.2.1⟩)
        have cc := HA.out.2.1.at 2 (v := .int .i64 v2) rfl
        have HIT := Lib.hid (itoa_any wA v2 h2.1 h2.2 (HTB.out.fr HA.out.2.2 (by simp)))
        obtain ⟨X, hX⟩ : ∃ X, X = numT v2 := ⟨_, rfl⟩
        have hxs : X.size ≤ 20 := by rw [hX]; exact numT_short _ h2.1 h2.2
        rw [← hX] at HIT
        have HX := Lib.hid (And.intro hX hxs)
        clear hqA hfA hX hxs h2
        go_wp2_with fail
        (with_reducible refine HIT.out.mono ?_)
        rintro e wB ⟨rfl, fB⟩
        have HQ2 := Lib.hid (bq_write (HA.out.1.fr fB) X (by have := HPL.out; have := HX.out.2; rw [List.length_append]; simp; omega))
        have HB := Lib.hid (show Blk wB bx #[.int .i64 v0, .int .i64 v1, .int .i64 v2, .int .i64 v3, .int .i64 v4, .int .i64 v5, .int .i64 v6, .int .i64 v7, .int .i64 v8, .int .i64 v9, .int .i64 v10, .slice p N c] 26 ∧ Fr [] w wB from ⟨fB.blk HA.out.2.1 (by simp), HA.out.2.2.trans fB (by simp)⟩)
        clear fB cc
        go_wp2_with fail
        (with_reducible refine HQ2.out.mono ?_)
        rintro e wC ⟨rfl, hqC, hfC⟩
        have HC := Lib.hid (show BQ wC w.heap.size b (pName ++ pNums ([v0, v1, v2, v3, v4, v5, v6, v7, v8, v9, v10].take 3)) ∧ Blk wC bx #[.int .i64 v0, .int .i64 v1, .int .i64 v2, .int .i64 v3, .int .i64 v4, .int .i64 v5, .int .i64 v6, .int .i64 v7, .int .i64 v8, .int .i64 v9, .int .i64 v10, .slice p N c] 26 ∧ Fr [] w wC ∧ bx ≠ b from ⟨by
          have e : P ++ [32] ++ X.data.toList = pName ++ pNums ([v0, v1, v2, v3, v4, v5, v6, v7, v8, v9, v10].take 3) := by rw [HP.out, HX.out.1]; simp [pNums]
          rw [← e]; exact hqC, hfC.blk HB.out.1 (by decide) HI.out.2.2.2, hfC.fr HB.out.2, HI.out.2.2.2⟩)
        clear hqC hfC
        go_wp2
        exact ⟨⟨3, rfl, by omega, HC.out⟩, by decide⟩
      · have h3 := HCF.out v3 (by simp)
        have HQ1 := Lib.hid (show Calls Tryz.prog 25 #[.pointer (some ⟨b, 0, none⟩), .int .u8 32] wi fun e w' => e = .returned .nilIface ∧ BQ w' w.heap.size b (P ++ [32]) ∧ BF w.heap.size b wi w' from bq_byte HI.out.1 32 (by have := HPL.out; omega))
        go_wp2_with fail
        (with_reducible refine HQ1.out.mono ?_)
        rintro e wA ⟨rfl, hqA, hfA⟩
        have HA := Lib.hid (show BQ wA w.heap.size b (P ++ [32]) ∧ Blk wA bx #[.int .i64 v0, .int .i64 v1, .int .i64 v2, .int .i64 v3, .int .i64 v4, .int .i64 v5, .int .i64 v6, .int .i64 v7, .int .i64 v8, .int .i64 v9, .int .i64 v10, .slice p N c] 26 ∧ Fr [] w wA from ⟨hqA, hfA.blk HI.out.2.1 (by decide) HI.out.2.2.2, hfA.fr HI.out.2.2.1⟩)
        have cc := HA.out.2.1.at 3 (v := .int .i64 v3) rfl
        have HIT := Lib.hid (itoa_any wA v3 h3.1 h3.2 (HTB.out.fr HA.out.2.2 (by simp)))
        obtain ⟨X, hX⟩ : ∃ X, X = numT v3 := ⟨_, rfl⟩
        have hxs : X.size ≤ 20 := by rw [hX]; exact numT_short _ h3.1 h3.2
        rw [← hX] at HIT
        have HX := Lib.hid (And.intro hX hxs)
        clear hqA hfA hX hxs h3
        go_wp2_with fail
        (with_reducible refine HIT.out.mono ?_)
        rintro e wB ⟨rfl, fB⟩
        have HQ2 := Lib.hid (bq_write (HA.out.1.fr fB) X (by have := HPL.out; have := HX.out.2; rw [List.length_append]; simp; omega))
        have HB := Lib.hid (show Blk wB bx #[.int .i64 v0, .int .i64 v1, .int .i64 v2, .int .i64 v3, .int .i64 v4, .int .i64 v5, .int .i64 v6, .int .i64 v7, .int .i64 v8, .int .i64 v9, .int .i64 v10, .slice p N c] 26 ∧ Fr [] w wB from ⟨fB.blk HA.out.2.1 (by simp), HA.out.2.2.trans fB (by simp)⟩)
        clear fB cc
        go_wp2_with fail
        (with_reducible refine HQ2.out.mono ?_)
        rintro e wC ⟨rfl, hqC, hfC⟩
        have HC := Lib.hid (show BQ wC w.heap.size b (pName ++ pNums ([v0, v1, v2, v3, v4, v5, v6, v7, v8, v9, v10].take 4)) ∧ Blk wC bx #[.int .i64 v0, .int .i64 v1, .int .i64 v2, .int .i64 v3, .int .i64 v4, .int .i64 v5, .int .i64 v6, .int .i64 v7, .int .i64 v8, .int .i64 v9, .int .i64 v10, .slice p N c] 26 ∧ Fr [] w wC ∧ bx ≠ b from ⟨by
          have e : P ++ [32] ++ X.data.toList = pName ++ pNums ([v0, v1, v2, v3, v4, v5, v6, v7, v8, v9, v10].take 4) := by rw [HP.out, HX.out.1]; simp [pNums]
          rw [← e]; exact hqC, hfC.blk HB.out.1 (by decide) HI.out.2.2.2, hfC.fr HB.out.2, HI.out.2.2.2⟩)
        clear hqC hfC
        go_wp2
        exact ⟨⟨4, rfl, by omega, HC.out⟩, by decide⟩
      · have h4 := HCF.out v4 (by simp)
        have HQ1 := Lib.hid (show Calls Tryz.prog 25 #[.pointer (some ⟨b, 0, none⟩), .int .u8 32] wi fun e w' => e = .returned .nilIface ∧ BQ w' w.heap.size b (P ++ [32]) ∧ BF w.heap.size b wi w' from bq_byte HI.out.1 32 (by have := HPL.out; omega))
        go_wp2_with fail
        (with_reducible refine HQ1.out.mono ?_)
        rintro e wA ⟨rfl, hqA, hfA⟩
        have HA := Lib.hid (show BQ wA w.heap.size b (P ++ [32]) ∧ Blk wA bx #[.int .i64 v0, .int .i64 v1, .int .i64 v2, .int .i64 v3, .int .i64 v4, .int .i64 v5, .int .i64 v6, .int .i64 v7, .int .i64 v8, .int .i64 v9, .int .i64 v10, .slice p N c] 26 ∧ Fr [] w wA from ⟨hqA, hfA.blk HI.out.2.1 (by decide) HI.out.2.2.2, hfA.fr HI.out.2.2.1⟩)
        have cc := HA.out.2.1.at 4 (v := .int .i64 v4) rfl
        have HIT := Lib.hid (itoa_any wA v4 h4.1 h4.2 (HTB.out.fr HA.out.2.2 (by simp)))
        obtain ⟨X, hX⟩ : ∃ X, X = numT v4 := ⟨_, rfl⟩
        have hxs : X.size ≤ 20 := by rw [hX]; exact numT_short _ h4.1 h4.2
        rw [← hX] at HIT
        have HX := Lib.hid (And.intro hX hxs)
        clear hqA hfA hX hxs h4
        go_wp2_with fail
        (with_reducible refine HIT.out.mono ?_)
        rintro e wB ⟨rfl, fB⟩
        have HQ2 := Lib.hid (bq_write (HA.out.1.fr fB) X (by have := HPL.out; have := HX.out.2; rw [List.length_append]; simp; omega))
        have HB := Lib.hid (show Blk wB bx #[.int .i64 v0, .int .i64 v1, .int .i64 v2, .int .i64 v3, .int .i64 v4, .int .i64 v5, .int .i64 v6, .int .i64 v7, .int .i64 v8, .int .i64 v9, .int .i64 v10, .slice p N c] 26 ∧ Fr [] w wB from ⟨fB.blk HA.out.2.1 (by simp), HA.out.2.2.trans fB (by simp)⟩)
        clear fB cc
        go_wp2_with fail
        (with_reducible refine HQ2.out.mono ?_)
        rintro e wC ⟨rfl, hqC, hfC⟩
        have HC := Lib.hid (show BQ wC w.heap.size b (pName ++ pNums ([v0, v1, v2, v3, v4, v5, v6, v7, v8, v9, v10].take 5)) ∧ Blk wC bx #[.int .i64 v0, .int .i64 v1, .int .i64 v2, .int .i64 v3, .int .i64 v4, .int .i64 v5, .int .i64 v6, .int .i64 v7, .int .i64 v8, .int .i64 v9, .int .i64 v10, .slice p N c] 26 ∧ Fr [] w wC ∧ bx ≠ b from ⟨by
          have e : P ++ [32] ++ X.data.toList = pName ++ pNums ([v0, v1, v2, v3, v4, v5, v6, v7, v8, v9, v10].take 5) := by rw [HP.out, HX.out.1]; simp [pNums]
          rw [← e]; exact hqC, hfC.blk HB.out.1 (by decide) HI.out.2.2.2, hfC.fr HB.out.2, HI.out.2.2.2⟩)
        clear hqC hfC
        go_wp2
        exact ⟨⟨5, rfl, by omega, HC.out⟩, by decide⟩
      · have h5 := HCF.out v5 (by simp)
        have HQ1 := Lib.hid (show Calls Tryz.prog 25 #[.pointer (some ⟨b, 0, none⟩), .int .u8 32] wi fun e w' => e = .returned .nilIface ∧ BQ w' w.heap.size b (P ++ [32]) ∧ BF w.heap.size b wi w' from bq_byte HI.out.1 32 (by have := HPL.out; omega))
        go_wp2_with fail
        (with_reducible refine HQ1.out.mono ?_)
        rintro e wA ⟨rfl, hqA, hfA⟩
        have HA := Lib.hid (show BQ wA w.heap.size b (P ++ [32]) ∧ Blk wA bx #[.int .i64 v0, .int .i64 v1, .int .i64 v2, .int .i64 v3, .int .i64 v4, .int .i64 v5, .int .i64 v6, .int .i64 v7, .int .i64 v8, .int .i64 v9, .int .i64 v10, .slice p N c] 26 ∧ Fr [] w wA from ⟨hqA, hfA.blk HI.out.2.1 (by decide) HI.out.2.2.2, hfA.fr HI.out.2.2.1⟩)
        have cc := HA.out.2.1.at 5 (v := .int .i64 v5) rfl
        have HIT := Lib.hid (itoa_any wA v5 h5.1 h5.2 (HTB.out.fr HA.out.2.2 (by simp)))
        obtain ⟨X, hX⟩ : ∃ X, X = numT v5 := ⟨_, rfl⟩
        have hxs : X.size ≤ 20 := by rw [hX]; exact numT_short _ h5.1 h5.2
        rw [← hX] at HIT
        have HX := Lib.hid (And.intro hX hxs)
        clear hqA hfA hX hxs h5
        go_wp2_with fail
        (with_reducible refine HIT.out.mono ?_)
        rintro e wB ⟨rfl, fB⟩
        have HQ2 := Lib.hid (bq_write (HA.out.1.fr fB) X (by have := HPL.out; have := HX.out.2; rw [List.length_append]; simp; omega))
        have HB := Lib.hid (show Blk wB bx #[.int .i64 v0, .int .i64 v1, .int .i64 v2, .int .i64 v3, .int .i64 v4, .int .i64 v5, .int .i64 v6, .int .i64 v7, .int .i64 v8, .int .i64 v9, .int .i64 v10, .slice p N c] 26 ∧ Fr [] w wB from ⟨fB.blk HA.out.2.1 (by simp), HA.out.2.2.trans fB (by simp)⟩)
        clear fB cc
        go_wp2_with fail
        (with_reducible refine HQ2.out.mono ?_)
        rintro e wC ⟨rfl, hqC, hfC⟩
        have HC := Lib.hid (show BQ wC w.heap.size b (pName ++ pNums ([v0, v1, v2, v3, v4, v5, v6, v7, v8, v9, v10].take 6)) ∧ Blk wC bx #[.int .i64 v0, .int .i64 v1, .int .i64 v2, .int .i64 v3, .int .i64 v4, .int .i64 v5, .int .i64 v6, .int .i64 v7, .int .i64 v8, .int .i64 v9, .int .i64 v10, .slice p N c] 26 ∧ Fr [] w wC ∧ bx ≠ b from ⟨by
          have e : P ++ [32] ++ X.data.toList = pName ++ pNums ([v0, v1, v2, v3, v4, v5, v6, v7, v8, v9, v10].take 6) := by rw [HP.out, HX.out.1]; simp [pNums]
          rw [← e]; exact hqC, hfC.blk HB.out.1 (by decide) HI.out.2.2.2, hfC.fr HB.out.2, HI.out.2.2.2⟩)
        clear hqC hfC
        go_wp2
        exact ⟨⟨6, rfl, by omega, HC.out⟩, by decide⟩
      · have h6 := HCF.out v6 (by simp)
        have HQ1 := Lib.hid (show Calls Tryz.prog 25 #[.pointer (some ⟨b, 0, none⟩), .int .u8 32] wi fun e w' => e = .returned .nilIface ∧ BQ w' w.heap.size b (P ++ [32]) ∧ BF w.heap.size b wi w' from bq_byte HI.out.1 32 (by have := HPL.out; omega))
        go_wp2_with fail
        (with_reducible refine HQ1.out.mono ?_)
        rintro e wA ⟨rfl, hqA, hfA⟩
        have HA := Lib.hid (show BQ wA w.heap.size b (P ++ [32]) ∧ Blk wA bx #[.int .i64 v0, .int .i64 v1, .int .i64 v2, .int .i64 v3, .int .i64 v4, .int .i64 v5, .int .i64 v6, .int .i64 v7, .int .i64 v8, .int .i64 v9, .int .i64 v10, .slice p N c] 26 ∧ Fr [] w wA from ⟨hqA, hfA.blk HI.out.2.1 (by decide) HI.out.2.2.2, hfA.fr HI.out.2.2.1⟩)
        have cc := HA.out.2.1.at 6 (v := .int .i64 v6) rfl
        have HIT := Lib.hid (itoa_any wA v6 h6.1 h6.2 (HTB.out.fr HA.out.2.2 (by simp)))
        obtain ⟨X, hX⟩ : ∃ X, X = numT v6 := ⟨_, rfl⟩
        have hxs : X.size ≤ 20 := by rw [hX]; exact numT_short _ h6.1 h6.2
        rw [← hX] at HIT
        have HX := Lib.hid (And.intro hX hxs)
        clear hqA hfA hX hxs h6
        go_wp2_with fail
        (with_reducible refine HIT.out.mono ?_)
        rintro e wB ⟨rfl, fB⟩
        have HQ2 := Lib.hid (bq_write (HA.out.1.fr fB) X (by have := HPL.out; have := HX.out.2; rw [List.length_append]; simp; omega))
        have HB := Lib.hid (show Blk wB bx #[.int .i64 v0, .int .i64 v1, .int .i64 v2, .int .i64 v3, .int .i64 v4, .int .i64 v5, .int .i64 v6, .int .i64 v7, .int .i64 v8, .int .i64 v9, .int .i64 v10, .slice p N c] 26 ∧ Fr [] w wB from ⟨fB.blk HA.out.2.1 (by simp), HA.out.2.2.trans fB (by simp)⟩)
        clear fB cc
        go_wp2_with fail
        (with_reducible refine HQ2.out.mono ?_)
        rintro e wC ⟨rfl, hqC, hfC⟩
        have HC := Lib.hid (show BQ wC w.heap.size b (pName ++ pNums ([v0, v1, v2, v3, v4, v5, v6, v7, v8, v9, v10].take 7)) ∧ Blk wC bx #[.int .i64 v0, .int .i64 v1, .int .i64 v2, .int .i64 v3, .int .i64 v4, .int .i64 v5, .int .i64 v6, .int .i64 v7, .int .i64 v8, .int .i64 v9, .int .i64 v10, .slice p N c] 26 ∧ Fr [] w wC ∧ bx ≠ b from ⟨by
          have e : P ++ [32] ++ X.data.toList = pName ++ pNums ([v0, v1, v2, v3, v4, v5, v6, v7, v8, v9, v10].take 7) := by rw [HP.out, HX.out.1]; simp [pNums]
          rw [← e]; exact hqC, hfC.blk HB.out.1 (by decide) HI.out.2.2.2, hfC.fr HB.out.2, HI.out.2.2.2⟩)
        clear hqC hfC
        go_wp2
        exact ⟨⟨7, rfl, by omega, HC.out⟩, by decide⟩
      · have h7 := HCF.out v7 (by simp)
        have HQ1 := Lib.hid (show Calls Tryz.prog 25 #[.pointer (some ⟨b, 0, none⟩), .int .u8 32] wi fun e w' => e = .returned .nilIface ∧ BQ w' w.heap.size b (P ++ [32]) ∧ BF w.heap.size b wi w' from bq_byte HI.out.1 32 (by have := HPL.out; omega))
        go_wp2_with fail
        (with_reducible refine HQ1.out.mono ?_)
        rintro e wA ⟨rfl, hqA, hfA⟩
        have HA := Lib.hid (show BQ wA w.heap.size b (P ++ [32]) ∧ Blk wA bx #[.int .i64 v0, .int .i64 v1, .int .i64 v2, .int .i64 v3, .int .i64 v4, .int .i64 v5, .int .i64 v6, .int .i64 v7, .int .i64 v8, .int .i64 v9, .int .i64 v10, .slice p N c] 26 ∧ Fr [] w wA from ⟨hqA, hfA.blk HI.out.2.1 (by decide) HI.out.2.2.2, hfA.fr HI.out.2.2.1⟩)
        have cc := HA.out.2.1.at 7 (v := .int .i64 v7) rfl
        have HIT := Lib.hid (itoa_any wA v7 h7.1 h7.2 (HTB.out.fr HA.out.2.2 (by simp)))
        obtain ⟨X, hX⟩ : ∃ X, X = numT v7 := ⟨_, rfl⟩
        have hxs : X.size ≤ 20 := by rw [hX]; exact numT_short _ h7.1 h7.2
        rw [← hX] at HIT
        have HX := Lib.hid (And.intro hX hxs)
        clear hqA hfA hX hxs h7
        go_wp2_with fail
        (with_reducible refine HIT.out.mono ?_)
        rintro e wB ⟨rfl, fB⟩
        have HQ2 := Lib.hid (bq_write (HA.out.1.fr fB) X (by have := HPL.out; have := HX.out.2; rw [List.length_append]; simp; omega))
        have HB := Lib.hid (show Blk wB bx #[.int .i64 v0, .int .i64 v1, .int .i64 v2, .int .i64 v3, .int .i64 v4, .int .i64 v5, .int .i64 v6, .int .i64 v7, .int .i64 v8, .int .i64 v9, .int .i64 v10, .slice p N c] 26 ∧ Fr [] w wB from ⟨fB.blk HA.out.2.1 (by simp), HA.out.2.2.trans fB (by simp)⟩)
        clear fB cc
        go_wp2_with fail
        (with_reducible refine HQ2.out.mono ?_)
        rintro e wC ⟨rfl, hqC, hfC⟩
        have HC := Lib.hid (show BQ wC w.heap.size b (pName ++ pNums ([v0, v1, v2, v3, v4, v5, v6, v7, v8, v9, v10].take 8)) ∧ Blk wC bx #[.int .i64 v0, .int .i64 v1, .int .i64 v2, .int .i64 v3, .int .i64 v4, .int .i64 v5, .int .i64 v6, .int .i64 v7, .int .i64 v8, .int .i64 v9, .int .i64 v10, .slice p N c] 26 ∧ Fr [] w wC ∧ bx ≠ b from ⟨by
          have e : P ++ [32] ++ X.data.toList = pName ++ pNums ([v0, v1, v2, v3, v4, v5, v6, v7, v8, v9, v10].take 8) := by rw [HP.out, HX.out.1]; simp [pNums]
          rw [← e]; exact hqC, hfC.blk HB.out.1 (by decide) HI.out.2.2.2, hfC.fr HB.out.2, HI.out.2.2.2⟩)
        clear hqC hfC
        go_wp2
        exact ⟨⟨8, rfl, by omega, HC.out⟩, by decide⟩
      · have h8 := HCF.out v8 (by simp)
        have HQ1 := Lib.hid (show Calls Tryz.prog 25 #[.pointer (some ⟨b, 0, none⟩), .int .u8 32] wi fun e w' => e = .returned .nilIface ∧ BQ w' w.heap.size b (P ++ [32]) ∧ BF w.heap.size b wi w' from bq_byte HI.out.1 32 (by have := HPL.out; omega))
        go_wp2_with fail
        (with_reducible refine HQ1.out.mono ?_)
        rintro e wA ⟨rfl, hqA, hfA⟩
        have HA := Lib.hid (show BQ wA w.heap.size b (P ++ [32]) ∧ Blk wA bx #[.int .i64 v0, .int .i64 v1, .int .i64 v2, .int .i64 v3, .int .i64 v4, .int .i64 v5, .int .i64 v6, .int .i64 v7, .int .i64 v8, .int .i64 v9, .int .i64 v10, .slice p N c] 26 ∧ Fr [] w wA from ⟨hqA, hfA.blk HI.out.2.1 (by decide) HI.out.2.2.2, hfA.fr HI.out.2.2.1⟩)
        have cc := HA.out.2.1.at 8 (v := .int .i64 v8) rfl
        have HIT := Lib.hid (itoa_any wA v8 h8.1 h8.2 (HTB.out.fr HA.out.2.2 (by simp)))
        obtain ⟨X, hX⟩ : ∃ X, X = numT v8 := ⟨_, rfl⟩
        have hxs : X.size ≤ 20 := by rw [hX]; exact numT_short _ h8.1 h8.2
        rw [← hX] at HIT
        have HX := Lib.hid (And.intro hX hxs)
        clear hqA hfA hX hxs h8
        go_wp2_with fail
        (with_reducible refine HIT.out.mono ?_)
        rintro e wB ⟨rfl, fB⟩
        have HQ2 := Lib.hid (bq_write (HA.out.1.fr fB) X (by have := HPL.out; have := HX.out.2; rw [List.length_append]; simp; omega))
        have HB := Lib.hid (show Blk wB bx #[.int .i64 v0, .int .i64 v1, .int .i64 v2, .int .i64 v3, .int .i64 v4, .int .i64 v5, .int .i64 v6, .int .i64 v7, .int .i64 v8, .int .i64 v9, .int .i64 v10, .slice p N c] 26 ∧ Fr [] w wB from ⟨fB.blk HA.out.2.1 (by simp), HA.out.2.2.trans fB (by simp)⟩)
        clear fB cc
        go_wp2_with fail
        (with_reducible refine HQ2.out.mono ?_)
        rintro e wC ⟨rfl, hqC, hfC⟩
        have HC := Lib.hid (show BQ wC w.heap.size b (pName ++ pNums ([v0, v1, v2, v3, v4, v5, v6, v7, v8, v9, v10].take 9)) ∧ Blk wC bx #[.int .i64 v0, .int .i64 v1, .int .i64 v2, .int .i64 v3, .int .i64 v4, .int .i64 v5, .int .i64 v6, .int .i64 v7, .int .i64 v8, .int .i64 v9, .int .i64 v10, .slice p N c] 26 ∧ Fr [] w wC ∧ bx ≠ b from ⟨by
          have e : P ++ [32] ++ X.data.toList = pName ++ pNums ([v0, v1, v2, v3, v4, v5, v6, v7, v8, v9, v10].take 9) := by rw [HP.out, HX.out.1]; simp [pNums]
          rw [← e]; exact hqC, hfC.blk HB.out.1 (by decide) HI.out.2.2.2, hfC.fr HB.out.2, HI.out.2.2.2⟩)
        clear hqC hfC
        go_wp2
        exact ⟨⟨9, rfl, by omega, HC.out⟩, by decide⟩
      · have h9 := HCF.out v9 (by simp)
        have HQ1 := Lib.hid (show Calls Tryz.prog 25 #[.pointer (some ⟨b, 0, none⟩), .int .u8 32] wi fun e w' => e = .returned .nilIface ∧ BQ w' w.heap.size b (P ++ [32]) ∧ BF w.heap.size b wi w' from bq_byte HI.out.1 32 (by have := HPL.out; omega))
        go_wp2_with fail
        (with_reducible refine HQ1.out.mono ?_)
        rintro e wA ⟨rfl, hqA, hfA⟩
        have HA := Lib.hid (show BQ wA w.heap.size b (P ++ [32]) ∧ Blk wA bx #[.int .i64 v0, .int .i64 v1, .int .i64 v2, .int .i64 v3, .int .i64 v4, .int .i64 v5, .int .i64 v6, .int .i64 v7, .int .i64 v8, .int .i64 v9, .int .i64 v10, .slice p N c] 26 ∧ Fr [] w wA from ⟨hqA, hfA.blk HI.out.2.1 (by decide) HI.out.2.2.2, hfA.fr HI.out.2.2.1⟩)
        have cc := HA.out.2.1.at 9 (v := .int .i64 v9) rfl
        have HIT := Lib.hid (fmt_any wA v9 h9.1 h9.2 (HTB.out.fr HA.out.2.2 (by simp)))
        obtain ⟨X, hX⟩ : ∃ X, X = numT v9 := ⟨_, rfl⟩
        have hxs : X.size ≤ 20 := by rw [hX]; exact numT_short _ h9.1 h9.2
        rw [← hX] at HIT
        have HX := Lib.hid (And.intro hX hxs)
        clear hqA hfA hX hxs h9
        go_wp2_with fail
        (with_reducible refine HIT.out.mono ?_)
        rintro e wB ⟨rfl, fB⟩
        have HQ2 := Lib.hid (bq_write (HA.out.1.fr fB) X (by have := HPL.out; have := HX.out.2; rw [List.length_append]; simp; omega))
        have HB := Lib.hid (show Blk wB bx #[.int .i64 v0, .int .i64 v1, .int .i64 v2, .int .i64 v3, .int .i64 v4, .int .i64 v5, .int .i64 v6, .int .i64 v7, .int .i64 v8, .int .i64 v9, .int .i64 v10, .slice p N c] 26 ∧ Fr [] w wB from ⟨fB.blk HA.out.2.1 (by simp), HA.out.2.2.trans fB (by simp)⟩)
        clear fB cc
        go_wp2_with fail
        (with_reducible refine HQ2.out.mono ?_)
        rintro e wC ⟨rfl, hqC, hfC⟩
        have HC := Lib.hid (show BQ wC w.heap.size b (pName ++ pNums ([v0, v1, v2, v3, v4, v5, v6, v7, v8, v9, v10].take 10)) ∧ Blk wC bx #[.int .i64 v0, .int .i64 v1, .int .i64 v2, .int .i64 v3, .int .i64 v4, .int .i64 v5, .int .i64 v6, .int .i64 v7, .int .i64 v8, .int .i64 v9, .int .i64 v10, .slice p N c] 26 ∧ Fr [] w wC ∧ bx ≠ b from ⟨by
          have e : P ++ [32] ++ X.data.toList = pName ++ pNums ([v0, v1, v2, v3, v4, v5, v6, v7, v8, v9, v10].take 10) := by rw [HP.out, HX.out.1]; simp [pNums]
          rw [← e]; exact hqC, hfC.blk HB.out.1 (by decide) HI.out.2.2.2, hfC.fr HB.out.2, HI.out.2.2.2⟩)
        clear hqC hfC
        go_wp2
        exact ⟨⟨10, rfl, by omega, HC.out⟩, by decide⟩
      · have h10 := HCF.out v10 (by simp)
        have HQ1 := Lib.hid (show Calls Tryz.prog 25 #[.pointer (some ⟨b, 0, none⟩), .int .u8 32] wi fun e w' => e = .returned .nilIface ∧ BQ w' w.heap.size b (P ++ [32]) ∧ BF w.heap.size b wi w' from bq_byte HI.out.1 32 (by have := HPL.out; omega))
        go_wp2_with fail
        (with_reducible refine HQ1.out.mono ?_)
        rintro e wA ⟨rfl, hqA, hfA⟩
        have HA := Lib.hid (show BQ wA w.heap.size b (P ++ [32]) ∧ Blk wA bx #[.int .i64 v0, .int .i64 v1, .int .i64 v2, .int .i64 v3, .int .i64 v4, .int .i64 v5, .int .i64 v6, .int .i64 v7, .int .i64 v8, .int .i64 v9, .int .i64 v10, .slice p N c] 26 ∧ Fr [] w wA from ⟨hqA, hfA.blk HI.out.2.1 (by decide) HI.out.2.2.2, hfA.fr HI.out.2.2.1⟩)
        have cc := HA.out.2.1.at 10 (v := .int .i64 v10) rfl
        have HIT := Lib.hid (itoa_any wA v10 h10.1 h10.2 (HTB.out.fr HA.out.2.2 (by simp)))
        obtain ⟨X, hX⟩ : ∃ X, X = numT v10 := ⟨_, rfl⟩
        have hxs : X.size ≤ 20 := by rw [hX]; exact numT_short _ h10.1 h10.2
        rw [← hX] at HIT
        have HX := Lib.hid (And.intro hX hxs)
        clear hqA hfA hX hxs h10
        go_wp2_with fail
        (with_reducible refine HIT.out.mono ?_)
        rintro e wB ⟨rfl, fB⟩
        have HQ2 := Lib.hid (bq_write (HA.out.1.fr fB) X (by have := HPL.out; have := HX.out.2; rw [List.length_append]; simp; omega))
        have HB := Lib.hid (show Blk wB bx #[.int .i64 v0, .int .i64 v1, .int .i64 v2, .int .i64 v3, .int .i64 v4, .int .i64 v5, .int .i64 v6, .int .i64 v7, .int .i64 v8, .int .i64 v9, .int .i64 v10, .slice p N c] 26 ∧ Fr [] w wB from ⟨fB.blk HA.out.2.1 (by simp), HA.out.2.2.trans fB (by simp)⟩)
        clear fB cc
        go_wp2_with fail
        (with_reducible refine HQ2.out.mono ?_)
        rintro e wC ⟨rfl, hqC, hfC⟩
        have HC := Lib.hid (show BQ wC w.heap.size b (pName ++ pNums ([v0, v1, v2, v3, v4, v5, v6, v7, v8, v9, v10].take 11)) ∧ Blk wC bx #[.int .i64 v0, .int .i64 v1, .int .i64 v2, .int .i64 v3, .int .i64 v4, .int .i64 v5, .int .i64 v6, .int .i64 v7, .int .i64 v8, .int .i64 v9, .int .i64 v10, .slice p N c] 26 ∧ Fr [] w wC ∧ bx ≠ b from ⟨by
          have e : P ++ [32] ++ X.data.toList = pName ++ pNums ([v0, v1, v2, v3, v4, v5, v6, v7, v8, v9, v10].take 11) := by rw [HP.out, HX.out.1]; simp [pNums]
          rw [← e]; exact hqC, hfC.blk HB.out.1 (by decide) HI.out.2.2.2, hfC.fr HB.out.2, HI.out.2.2.2⟩)
        clear hqC hfC
        go_wp2
        exact ⟨⟨11, rfl, by omega, HC.out⟩, by decide⟩
      · have HQ5 := Lib.hid (show Calls Tryz.prog 25 #[.pointer (some ⟨b, 0, none⟩), .int .u8 10] wi fun e w' => e = .returned .nilIface ∧ BQ w' w.heap.size b (P ++ [10]) ∧ BF w.heap.size b wi w' from bq_byte HI.out.1 10 (by have := HPL.out; omega))
        go_wp2_with fail
        (with_reducible refine HQ5.out.mono ?_)
        rintro e w5 ⟨rfl, hq5, hf5⟩
        have hP0 : P ++ [10] = pHead [v0, v1, v2, v3, v4, v5, v6, v7, v8, v9, v10] ++ pLines ((C.map Prod.fst).take 0) := by rw [HP.out, List.take_of_length_le (by simp)]; simp [pHead, pLines]
        have H5 := Lib.hid (show BQ w5 w.heap.size b (pHead [v0, v1, v2, v3, v4, v5, v6, v7, v8, v9, v10] ++ pLines ((C.map Prod.fst).take 0)) ∧ (pHead [v0, v1, v2, v3, v4, v5, v6, v7, v8, v9, v10] ++ pLines ((C.map Prod.fst).take 0)).length ≤ 4194305 ∧ Blk w5 bx #[.int .i64 v0, .int .i64 v1, .int .i64 v2, .int .i64 v3, .int .i64 v4, .int .i64 v5, .int .i64 v6, .int .i64 v7, .int .i64 v8, .int .i64 v9, .int .i64 v10, .slice p N c] 26 ∧ Fr [] w w5 ∧ bx ≠ b from ⟨by rw [← hP0]; exact hq5, by rw [← hP0, List.length_append]; have := HPL.out; simp; omega, hf5.blk HI.out.2.1 (by decide) HI.out.2.2.2, hf5.fr HI.out.2.2.1, HI.out.2.2.2⟩)
        have d11 := H5.out.2.2.1.at 11 (v := .slice p N c) rfl
        clear hq5 hf5 hP0
        go_wp2_with fail
        go_loopw [48] (fun iv wr => ∃ k : Nat, iv = .int .i64 k ∧ k ≤ C.length ∧ BQ wr w.heap.size b (pHead [v0, v1, v2, v3, v4, v5, v6, v7, v8, v9, v10] ++ pLines ((C.map Prod.fst).take k)) ∧ (pHead [v0, v1, v2, v3, v4, v5, v6, v7, v8, v9, v10] ++ pLines ((C.map Prod.fst).take k)).length ≤ 4194305 ∧ (∀ s ∈ (C.map Prod.fst).take k, lineE s = 0) ∧ Fr [] w wr) (fun iv _ => C.length - (match iv with | .int _ q => q.toNat | _ => 0))
        case atStart => exact ⟨0, rfl, Nat.zero_le _, H5.out.1, H5.out.2.1, by simp, H5.out.2.2.2.1⟩
        case round =>
          obtain ⟨k, rfl, hk, hq, hlen, hall, hf⟩ := hrel
          obtain ⟨wj, hwj⟩ : ∃ wj : World, wj = wr := ⟨_, rfl⟩
          rw [← hwj] at hf hq ⊢
          clear hwj d11
          obtain ⟨D2, hD2⟩ : ∃ D2, D2 = pHead [v0, v1, v2, v3, v4, v5, v6, v7, v8, v9, v10] ++ pLines ((C.map Prod.fst).take k) := ⟨_, rfl⟩
          rw [← hD2] at hq hlen
          have HJ := Lib.hid (And.intro hk (And.intro hq (And.intro hlen (And.intro hall hf))))
          have HD2 := Lib.hid hD2
          have kk0 : (0 : Int) ≤ (k : Int) := by omega
          clear hk hq hlen hall hf hD2
          by_cases hlt : k < C.length
          · have d1 : (k : Int) < (N : Int) := by rw [HN.out]; omega
            obtain ⟨x, hx⟩ : ∃ x, C[k]? = some x := ⟨_, List.getElem?_eq_getElem hlt⟩
            have hsv := fr_steps HV.out.1 HJ.out.2.2.2.2
            obtain ⟨g, c', hs, hld⟩ := hsv.load hx
            obtain ⟨rfl, rfl⟩ : p = some ⟨g, 0, none⟩ ∧ c = c' := by simpa using hs
            have hmem := List.mem_of_getElem? hx
            have hbx := hsv.byt x hmem
            have hsti := HV.out.2.1 x hmem
            obtain ⟨st, bv⟩ := x
            obtain ⟨bp, bc, hbe⟩ := hbx.form
            obtain rfl : bv = .slice bp st.by'.length bc := hbe
            have hgs : (C.map Prod.fst)[k]? = some st := by rw [List.getElem?_map, hx]; rfl
            have HX := Lib.hid (And.intro hgs (And.intro hlt (show st ∈ C.map Prod.fst from List.mem_of_getElem? hgs)))
            replace hld : (loadSt ⟨g, k * 5, none⟩).run Tryz.prog wj = .ok (.agg #[.int .u8 st.kd, .int .i64 st.la, .int .i64 st.sl, .int .i64 st.pl, .slice bp st.by'.length bc]) wj := hld
            have q4 : can5 (wj.alloc (.cells #[.int .u8 0, .int .i64 0, .int .i64 0, .int .i64 0, .slice none 0 0] 64)) wj.heap.size = true := (Blk.new wj _ 64).can5
            have o1 : (Value.int .u8 st.kd).oneCell' = true := rfl
            have o2 : ∀ z : Int, (Value.int .i64 z).oneCell' = true := fun _ => rfl
            have o3 : (Value.slice bp st.by'.length bc).oneCell' = true := rfl
            obtain ⟨xb, hxb⟩ : ∃ xb, xb = wj.heap.size := ⟨_, rfl⟩
            obtain ⟨w7, hw7⟩ : ∃ w7, layS (wj.alloc (.cells #[.int .u8 0, .int .i64 0, .int .i64 0, .int .i64 0, .slice none 0 0] 64)) wj.heap.size (.int .u8 st.kd) (.int .i64 st.la) (.int .i64 st.sl) (.int .i64 st.pl) (.slice bp st.by'.length bc) = w7 := ⟨_, rfl⟩
            have hb7 : Blk w7 xb #[.int .u8 st.kd, .int .i64 st.la, .int .i64 st.sl, .int .i64 st.pl, .slice bp st.by'.length bc] 64 := by rw [← hw7, hxb]; exact (Blk.new wj _ 64).lay _ _ _ _ _
            have f7 : Fr [] wj w7 := by rw [← hw7]; exact ((Fr.refl [] wj).alloc _).lay _ _ _ _ _ _ (.inr (Nat.le_refl _))
            have H7 := Lib.hid (show BQ w7 w.heap.size b D2 ∧ Fr [] w w7 from ⟨HJ.out.2.1.fr f7, HJ.out.2.2.2.2.trans f7 (by simp)⟩)
            have q5 := hb7.st
            have HW7 := Lib.hid (And.intro hw7 hxb)
            have HSL := Lib.hid (sline_any w7 st bp bc hsti (HTB.out.fr H7.out.2 (by simp)) (Rd.of_own (hbx.fr' f7 (by simp)).1))
            obtain ⟨X, hX⟩ : ∃ X, X = lineX st := ⟨_, rfl⟩
            obtain ⟨LE, hLE⟩ : ∃ LE, LE = lineE st := ⟨_, rfl⟩
            rw [← hX, ← hLE] at HSL
            replace HSL := Lib.hid (show Calls Tryz.prog 28 #[.agg #[.int .u8 st.kd, .int .i64 st.la, .int .i64 st.sl, .int .i64 st.pl, .slice bp st.by'.length bc]] w7 _ from HSL.out)
            have HLX := Lib.hid (And.intro hX hLE)
            clear hs hmem hbx hsti hx hsv hgs hX hLE hlt hw7 hxb hb7 f7
            go_upto_region 22 with fail
            rw [HW7.out.1, ← HW7.out.2]
            clear q4 o1 o2 o3 hld
            go_wp2_with fail
            (with_reducible refine HSL.out.mono ?_)
            rintro e w8 ⟨rfl, f8⟩
            have H8 := Lib.hid (show BQ w8 w.heap.size b D2 ∧ Fr [] w w8 from ⟨H7.out.1.fr f8, H7.out.2.trans f8 (by simp)⟩)
            clear f8 q5
            by_cases hle : LE = 0
            · have e1 : (LE != 0) = false := by rw [hle]; rfl
              have HLE := Lib.hid (show lineE st = 0 ∧ X = lineT st ∧ X.size ≤ 4194304 from by
                have h0 : lineE st = 0 := by rw [← HLX.out.2]; exact hle
                have hxt : lineX st = lineT st := if_pos h0
                refine ⟨h0, by rw [HLX.out.1, hxt], ?_⟩
                rw [HLX.out.1, hxt]
                refine Nat.le_of_not_lt fun q => ?_
                cases hmm : mayS st with
                | false => rw [(lineE_bad hmm).1] at h0; cases h0
                | true => rw [(lineE_over hmm q).1] at h0; cases h0)
              clear hle
              have HNX := Lib.hid (show D2 ++ X.data.toList ++ [10] = pHead [v0, v1, v2, v3, v4, v5, v6, v7, v8, v9, v10] ++ pLines ((C.map Prod.fst).take (k + 1)) from by
                rw [HD2.out, pLines_one HX.out.1, HLE.out.2.1]
                simp)
              have b1 : (D2.length : Int) ≤ 4194305 := by have := HJ.out.2.2.1; omega
              have b2 : (X.size : Int) ≤ 4194304 := by have := HLE.out.2.2; omega
              have wadd : IntKind.i64.wrap ((D2.length : Int) + (X.size : Int)) = (D2.length : Int) + (X.size : Int) := by rw [IntKind.wrap_i64]; omega
              go_wp2_with fail
              (with_reducible refine (bq_len H8.out.1).mono ?_)
              rintro e wz ⟨rfl, hwz⟩
              rw [hwz]
              clear hwz
              by_cases hov : 4194304 < D2.length + X.size
              · have k9 : (4194304 : Int) < (D2.length : Int) + (X.size : Int) := by omega
                have hp := printE_long (k := k + 1) HZ.out (by rw [← HNX.out, List.length_append, List.length_append, size_list]; omega)
                obtain rfl : E = 4 := by rw [HRE.out.2, hp.1]
                obtain rfl : R = ⟨#[]⟩ := by rw [HRE.out.1, hp.2]
                clear hov hp
                go_wp2
                go_ret2
                exact ⟨rfl, H8.out.2⟩
              · have k9 : (D2.length : Int) + (X.size : Int) ≤ 4194304 := by omega
                have HOV := Lib.hid hov
                have HQ8 := Lib.hid (bq_write H8.out.1 X (by omega))
                clear hov
                go_wp2_with fail
                (with_reducible refine HQ8.out.mono ?_)
                rintro e w9 ⟨rfl, hq9, hf9⟩
                have HQ9 := Lib.hid (show Calls Tryz.prog 25 #[.pointer (some ⟨b, 0, none⟩), .int .u8 10] w9 fun e w' => e = .returned .nilIface ∧ BQ w' w.heap.size b (D2 ++ X.data.toList ++ [10]) ∧ BF w.heap.size b w9 w' from bq_byte hq9 10 (by have := HOV.out; rw [List.length_append, size_list]; omega))
                have H9 := Lib.hid (hf9.fr H8.out.2)
                clear hq9 hf9
                go_wp2_with fail
                (with_reducible refine HQ9.out.mono ?_)
                rintro e w10 ⟨rfl, hq10, hf10⟩
                have H10 := Lib.hid (show BQ w10 w.heap.size b (pHead [v0, v1, v2, v3, v4, v5, v6, v7, v8, v9, v10] ++ pLines ((C.map Prod.fst).take (k + 1))) ∧ (pHead [v0, v1, v2, v3, v4, v5, v6, v7, v8, v9, v10] ++ pLines ((C.map Prod.fst).take (k + 1))).length ≤ 4194305 ∧ Fr [] w w10 from ⟨by rw [← HNX.out]; exact hq10, by rw [← HNX.out, List.length_append, List.length_append, size_list]; have := HOV.out; simp; omega, hf10.fr H9.out⟩)
                clear hq10 hf10
                go_wp2
                exact ⟨⟨k + 1, rfl, HX.out.2.1, H10.out.1, H10.out.2.1, fun s hs => by
                  rw [List.take_add_one, HX.out.1] at hs
                  simp only [List.mem_append, Option.toList_some, List.mem_singleton] at hs
                  rcases hs with hs | rfl
                  · exact HJ.out.2.2.2.1 s hs
                  · exact HLE.out.1, H10.out.2.2⟩, by have := HX.out.2.1; show C.length - ((k : Int) + 1).toNat < C.length - ((k : Nat) : Int).toNat; omega⟩
            · have e1 : (LE != 0) = true := by rw [bne_iff_ne]; exact hle
              have hp := printE_line HZ.out HX.out.2.2 (by rw [← HLX.out.2]; exact hle)
              obtain rfl : E = 4 := by rw [HRE.out.2, hp.1]
              obtain rfl : R = ⟨#[]⟩ := by rw [HRE.out.1, hp.2]
              clear hle hp
              go_wp2
              go_ret2
              exact ⟨rfl, H8.out.2⟩
          · obtain rfl : k = C.length := by have := HJ.out.1; omega
            have d1 : ¬ ((C.length : Int) < (N : Int)) := by rw [HN.out]; omega
            have d2 : (N : Int) ≤ (C.length : Int) := by rw [HN.out]; exact Int.le_refl _
            clear hlt
            have HT := Lib.hid (show D2 ++ [101, 110, 100, 10] = printB [v0, v1, v2, v3, v4, v5, v6, v7, v8, v9, v10] (C.map Prod.fst) from by
              rw [HD2.out, List.take_of_length_le (by rw [List.length_map]; exact Nat.le_refl _)]
              rfl)
            have HAL := Lib.hid (show ∀ s ∈ C.map Prod.fst, lineE s = 0 from fun s hs => HJ.out.2.2.2.1 s (by rw [List.take_of_length_le (by rw [List.length_map]; exact Nat.le_refl _)]; exact hs))
            have HQ6 := Lib.hid (show Calls Tryz.prog 23 #[.pointer (some ⟨b, 0, none⟩), .string ⟨#[101, 110, 100, 10]⟩] wj fun e w' => e = .returned (.tuple #[.int .i64 4, .nilIface]) ∧ BQ w' w.heap.size b (printB [v0, v1, v2, v3, v4, v5, v6, v7, v8, v9, v10] (C.map Prod.fst)) ∧ BF w.heap.size b wj w' from by
              have h1 := bq_write HJ.out.2.1 ⟨#[101, 110, 100, 10]⟩ (by have := HJ.out.2.2.1; show D2.length + 4 ≤ _; omega)
              rw [show D2 ++ (⟨#[101, 110, 100, 10]⟩ : ByteArray).data.toList = printB [v0, v1, v2, v3, v4, v5, v6, v7, v8, v9, v10] (C.map Prod.fst) from HT.out] at h1
              exact h1)
            go_wp2_with fail
            (with_reducible refine HQ6.out.mono ?_)
            rintro e w6 ⟨rfl, hq6, hf6⟩
            obtain ⟨T, hT⟩ : ∃ T, T = printB [v0, v1, v2, v3, v4, v5, v6, v7, v8, v9, v10] (C.map Prod.fst) := ⟨_, rfl⟩
            rw [← hT] at hq6
            have HTT := Lib.hid hT
            have H6 := Lib.hid (show BQ w6 w.heap.size b T ∧ Fr [] w w6 from ⟨hq6, hf6.fr HJ.out.2.2.2.2⟩)
            clear hq6 hf6 hT d1 d2
            go_wp2_with fail
            (with_reducible refine (bq_len H6.out.1).mono ?_)
            rintro e wz ⟨rfl, hwz⟩
            rw [hwz]
            clear hwz
            by_cases hov : T.length ≤ 4194304
            · have k9 : (T.length : Int) ≤ 4194304 := by omega
              have hp := printE_good HZ.out HAL.out (by rw [← HTT.out]; exact hov)
              obtain rfl : E = 0 := by rw [HRE.out.2, hp.1]
              obtain rfl : R = ⟨T.toArray⟩ := by rw [HRE.out.1, hp.2, HTT.out]
              clear hov hp
              go_wp2_with fail
              (with_reducible refine (bq_str H6.out.1).mono ?_)
              rintro e w7 ⟨rfl, hb7⟩
              have H7 := Lib.hid (show Fr [] w w7 from ⟨hb7.os.trans H6.out.2.os, hb7.tape.trans H6.out.2.tape, hb7.output.trans H6.out.2.output, Nat.le_trans H6.out.2.size hb7.size, fun j hj hn => (hb7.block j hj).trans (H6.out.2.block j hj hn)⟩)
              clear hb7
              go_wp2
              go_ret2
              exact ⟨rfl, H7.out⟩
            · have k9 : (4194304 : Int) < (T.length : Int) := by omega
              have hp := printE_four HZ.out (fun q => hov (by rw [HTT.out]; exact q.2))
              obtain rfl : E = 4 := by rw [HRE.out.2, hp.1]
              obtain rfl : R = ⟨#[]⟩ := by rw [HRE.out.1, hp.2]
              clear hov hp
              go_wp2
              go_ret2
              exact ⟨rfl, H6.out.2⟩
  · have z1 : (E1 != 0) = true := by rw [bne_iff_ne]; exact hz
    have hp := printE_check (cfg := [v0, v1, v2, v3, v4, v5, v6, v7, v8, v9, v10]) (L := C.map Prod.fst) (by rw [← HE1.out]; exact hz)
    obtain rfl : E = E1 := by rw [HRE.out.2, hp.1, HE1.out]
    obtain rfl : R = ⟨#[]⟩ := by rw [HRE.out.1, hp.2]
    clear hz hp
    go_wp2
    go_ret2
    exact ⟨rfl, H1.out.2⟩
end Sc
end Go.Proofs.YtbpgpjibljgiiaaGreatDoor
