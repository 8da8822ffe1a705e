/-
  Script, the document: a config's numbers, and whether they may be. Printed by genRc.py.
  Script, the document: Check.
  Script, plain: a script's text. No program stands here.
-/
import Derived.Test.YtbpgpjibljgiiaaGreatDoorLefA
namespace Go.Proofs.YtbpgpjibljgiiaaGreatDoor
open Go.RowKit
set_option linter.unusedVariables false
set_option linter.unusedSimpArgs false
attribute [local go_sem] Oper.semAt_some
namespace Sc
set_option maxRecDepth 100000 in
set_option maxHeartbeats 4000000 in
theorem rnumbers_any (w : World) (v0 v1 v2 v3 v4 v5 v6 v7 v8 v9 v10 : Int) : Calls Tryz.prog 66 #[.agg #[.int .i64 v0, .int .i64 v1, .int .i64 v2, .int .i64 v3, .int .i64 v4, .int .i64 v5, .int .i64 v6, .int .i64 v7, .int .i64 v8, .int .i64 v9, .int .i64 v10]] w fun e w' => ∃ g, e = .returned (.slice (some ⟨g, 0, none⟩) 11 11) ∧ Blk w' g #[.int .i64 v0, .int .i64 v1, .int .i64 v2, .int .i64 v3, .int .i64 v4, .int .i64 v5, .int .i64 v6, .int .i64 v7, .int .i64 v8, .int .i64 v9, .int .i64 v10] 2 ∧ Fr [] w w' := by
  go_enter Tryz.func66, Tryz.ntmps66
  go_wp2
  go_ret
  exact ⟨_, rfl, Blk.new_at (by simp) _ _, ((Fr.refl _ _).alloc _).alloc _⟩
theorem between_any (w : World) (x lo hi : Int) : Calls Tryz.prog 67 #[.int .i64 x, .int .i64 lo, .int .i64 hi] w fun e w' => e = .returned (.bool (decide (lo ≤ x) && decide (x ≤ hi))) ∧ w' = w := by
  by_cases h1 : lo ≤ x
  · by_cases h2 : x ≤ hi
    · go_enter Tryz.func67, Tryz.ntmps67
      go_wp2
      all_goals
        go_ret
        exact ⟨by first | (simp_all; done) | (simp_all; omega), rfl⟩
    · go_enter Tryz.func67, Tryz.ntmps67
      go_wp2
      all_goals
        go_ret
        exact ⟨by first | (simp_all; done) | (simp_all; omega), rfl⟩
  · go_enter Tryz.func67, Tryz.ntmps67
    go_wp2
    all_goals
      go_ret
      exact ⟨by first | (simp_all; done) | (simp_all; omega), rfl⟩
theorem lst_get {l : List Int} {W : World} {g : Nat} {e : TypeId} (h : Blk W g (ints l).toArray e) {i : Nat} (hi : i < l.length) : W.cell? ⟨g, i, none⟩ = some (.int .i64 (l.getD i 0)) := h.int hi
theorem cfgE_lists (v0 v1 v2 v3 v4 v5 v6 v7 v8 v9 v10 m : Int) (hm : m = max v2 v3) : ((∀ i, i < 11 → ([1, 1, 1, 1, 1, m, 1, 1, 1, 1, 0] : List Int).getD i 0 ≤ [v0, v1, v2, v3, v4, v5, v6, v7, v8, v9, v10].getD i 0 ∧ [v0, v1, v2, v3, v4, v5, v6, v7, v8, v9, v10].getD i 0 ≤ ([8, 64, 64, 64, 16, 256, 32, 64, 1000, 2147483648, 2] : List Int).getD i 0) → cfgE [v0, v1, v2, v3, v4, v5, v6, v7, v8, v9, v10] = 0) ∧ ∀ i, i < 11 → ¬ (([1, 1, 1, 1, 1, m, 1, 1, 1, 1, 0] : List Int).getD i 0 ≤ [v0, v1, v2, v3, v4, v5, v6, v7, v8, v9, v10].getD i 0 ∧ [v0, v1, v2, v3, v4, v5, v6, v7, v8, v9, v10].getD i 0 ≤ ([8, 64, 64, 64, 16, 256, 32, 64, 1000, 2147483648, 2] : List Int).getD i 0) → cfgE [v0, v1, v2, v3, v4, v5, v6, v7, v8, v9, v10] = 2 := by
  have key : allIn (sizes v0 v1 v2 v3 v4 v5 v6 v7 v8 v9 v10) = true ↔ ∀ i, i < 11 → ([1, 1, 1, 1, 1, m, 1, 1, 1, 1, 0] : List Int).getD i 0 ≤ [v0, v1, v2, v3, v4, v5, v6, v7, v8, v9, v10].getD i 0 ∧ [v0, v1, v2, v3, v4, v5, v6, v7, v8, v9, v10].getD i 0 ≤ ([8, 64, 64, 64, 16, 256, 32, 64, 1000, 2147483648, 2] : List Int).getD i 0 := by
    subst hm
    unfold allIn sizes
    simp only [List.all_cons, List.all_nil, Bool.and_eq_true, decide_eq_true_eq, Bool.and_true, and_true]
    constructor
    · intro h i hi
      have hc : i = 0 ∨ i = 1 ∨ i = 2 ∨ i = 3 ∨ i = 4 ∨ i = 5 ∨ i = 6 ∨ i = 7 ∨ i = 8 ∨ i = 9 ∨ i = 10 := by omega
      obtain ⟨h0, h1, h2, h3, h4, h5, h6, h7, h8, h9, h10⟩ := h
      rcases hc with rfl | rfl | rfl | rfl | rfl | rfl | rfl | rfl | rfl | rfl | rfl <;> assumption
    · intro h
      exact ⟨h 0 (by omega), h 1 (by omega), h 2 (by omega), h 3 (by omega), h 4 (by omega), h 5 (by omega), h 6 (by omega), h 7 (by omega), h 8 (by omega), h 9 (by omega), h 10 (by omega)⟩
  refine ⟨fun h => ?_, fun i hi h => ?_⟩
  · show (if allIn (sizes v0 v1 v2 v3 v4 v5 v6 v7 v8 v9 v10) = true then (0 : Int) else 2) = 0
    rw [if_pos (key.2 h)]
  · show (if allIn (sizes v0 v1 v2 v3 v4 v5 v6 v7 v8 v9 v10) = true then (0 : Int) else 2) = 2
    rw [if_neg (fun q => h (key.1 q i hi))]
set_option maxRecDepth 100000 in
set_option maxHeartbeats 8000000 in
theorem rconfig_any (w : World) (v0 v1 v2 v3 v4 v5 v6 v7 v8 v9 v10 : Int) : Calls Tryz.prog 43 #[.agg #[.int .i64 v0, .int .i64 v1, .int .i64 v2, .int .i64 v3, .int .i64 v4, .int .i64 v5, .int .i64 v6, .int .i64 v7, .int .i64 v8, .int .i64 v9, .int .i64 v10]] w fun e w' => e = .returned (.int .i64 (cfgE [v0, v1, v2, v3, v4, v5, v6, v7, v8, v9, v10])) ∧ Fr [] w w' := by
  obtain ⟨m, hm⟩ : ∃ m, m = max v2 v3 := ⟨_, rfl⟩
  obtain ⟨E, hE⟩ : ∃ E, E = cfgE [v0, v1, v2, v3, v4, v5, v6, v7, v8, v9, v10] := ⟨_, rfl⟩
  rw [← hE]
  have HOK := Lib.hid (fun (q : ∀ i, i < 11 → ([1, 1, 1, 1, 1, m, 1, 1, 1, 1, 0] : List Int).getD i 0 ≤ [v0, v1, v2, v3, v4, v5, v6, v7, v8, v9, v10].getD i 0 ∧ [v0, v1, v2, v3, v4, v5, v6, v7, v8, v9, v10].getD i 0 ≤ ([8, 64, 64, 64, 16, 256, 32, 64, 1000, 2147483648, 2] : List Int).getD i 0) => show E = 0 from hE.trans ((cfgE_lists v0 v1 v2 v3 v4 v5 v6 v7 v8 v9 v10 m hm).1 q))
  have HBAD := Lib.hid (fun i (hi : i < 11) (q : ¬ (([1, 1, 1, 1, 1, m, 1, 1, 1, 1, 0] : List Int).getD i 0 ≤ [v0, v1, v2, v3, v4, v5, v6, v7, v8, v9, v10].getD i 0 ∧ [v0, v1, v2, v3, v4, v5, v6, v7, v8, v9, v10].getD i 0 ≤ ([8, 64, 64, 64, 16, 256, 32, 64, 1000, 2147483648, 2] : List Int).getD i 0)) => show E = 2 from hE.trans ((cfgE_lists v0 v1 v2 v3 v4 v5 v6 v7 v8 v9 v10 m hm).2 i hi q))
  have HM := Lib.hid hm
  have f0 : Fr [] w (w.alloc (.cells #[.int .i64 v0, .int .i64 v1, .int .i64 v2, .int .i64 v3, .int .i64 v4, .int .i64 v5, .int .i64 v6, .int .i64 v7, .int .i64 v8, .int .i64 v9, .int .i64 v10] 23)) := (Fr.refl _ _).alloc _
  have HN := Lib.hid (rnumbers_any (w.alloc (.cells #[.int .i64 v0, .int .i64 v1, .int .i64 v2, .int .i64 v3, .int .i64 v4, .int .i64 v5, .int .i64 v6, .int .i64 v7, .int .i64 v8, .int .i64 v9, .int .i64 v10] 23)) v0 v1 v2 v3 v4 v5 v6 v7 v8 v9 v10)
  have HF0 := Lib.hid f0
  clear hE hm f0
  go_enter Tryz.func43, Tryz.ntmps43
  go_wp2_with fail
  (with_reducible refine HN.out.mono ?_)
  rintro e w1 ⟨gn, rfl, hb1, f1⟩
  have H1 := Lib.hid (And.intro hb1 (HF0.out.trans f1 (by simp)))
  have c2 := hb1.at 2 (v := .int .i64 v2) rfl
  have c3 := hb1.at 3 (v := .int .i64 v3) rfl
  clear hb1 f1
  go_upto_if 17 with fail
  go_cut [4] from 18 (fun s4 wx => s4 = .int .i64 m ∧ wx = w1)
  case first =>
    by_cases hg : v3 > v2
    · obtain rfl : m = v3 := by rw [HM.out]; omega
      have k1 : v2 < m := hg
      clear hg
      go_wp2_with fail
      go_meet
      case rel => exact ⟨rfl, rfl⟩
    · obtain rfl : m = v2 := by rw [HM.out]; omega
      have k1 : ¬ m < v3 := hg
      have k2 : v3 ≤ m := by omega
      clear hg
      go_wp2_with fail
      go_meet
      case rel => exact ⟨rfl, rfl⟩
  case rest =>
    obtain ⟨rfl, hwc⟩ := hcut
    obtain ⟨wc0, hwc0⟩ : ∃ x : World, x = wc := ⟨_, rfl⟩
    rw [← hwc0] at hwc ⊢
    clear hwc0
    rw [hwc]
    clear hwc
    clear c2 c3
    obtain ⟨gl, hgl⟩ : ∃ gl, gl = w1.heap.size := ⟨_, rfl⟩
    obtain ⟨w2, hw2⟩ : ∃ w2, w1.alloc (.cells #[.int .i64 1, .int .i64 1, .int .i64 1, .int .i64 1, .int .i64 1, .int .i64 m, .int .i64 1, .int .i64 1, .int .i64 1, .int .i64 1, .int .i64 0] 2) = w2 := ⟨_, rfl⟩
    obtain ⟨gh, hgh⟩ : ∃ gh, gh = w2.heap.size := ⟨_, rfl⟩
    obtain ⟨w3, hw3⟩ : ∃ w3, w2.alloc (.cells #[.int .i64 8, .int .i64 64, .int .i64 64, .int .i64 64, .int .i64 16, .int .i64 256, .int .i64 32, .int .i64 64, .int .i64 1000, .int .i64 2147483648, .int .i64 2] 2) = w3 := ⟨_, rfl⟩
    have f2 : Fr [] w1 w2 := by rw [← hw2]; exact (Fr.refl _ _).alloc _
    have f3 : Fr [] w2 w3 := by rw [← hw3]; exact (Fr.refl _ _).alloc _
    have H3 := Lib.hid (show Blk w3 gn (ints [v0, v1, v2, v3, v4, v5, v6, v7, v8, v9, v10]).toArray 2 ∧ Blk w3 gl (ints [1, 1, 1, 1, 1, m, 1, 1, 1, 1, 0]).toArray 2 ∧ Blk w3 gh (ints [8, 64, 64, 64, 16, 256, 32, 64, 1000, 2147483648, 2]).toArray 2 ∧ Fr [] w w3 from ⟨f3.blk (f2.blk H1.out.1 (by simp)) (by simp), f3.blk (by rw [← hw2]; exact Blk.new_at hgl _ _) (by simp), by rw [← hw3]; exact Blk.new_at hgh _ _, (H1.out.2.trans f2 (by simp)).trans f3 (by simp)⟩)
    have HW2 := Lib.hid (And.intro hw2 hgl)
    have HW3 := Lib.hid (And.intro hw3 hgh)
    clear hgl hw2 hgh hw3 f2 f3
    go_upto_region 6 with fail
    rw [HW2.out.1, ← HW2.out.2]
    go_upto_region 7 with fail
    rw [HW3.out.1, ← HW3.out.2]
    go_wp2_with fail
    go_loopw [7] (fun iv wr => ∃ i : Nat, iv = .int .i64 i ∧ i ≤ 11 ∧ (∀ j, j < i → ([1, 1, 1, 1, 1, m, 1, 1, 1, 1, 0] : List Int).getD j 0 ≤ [v0, v1, v2, v3, v4, v5, v6, v7, v8, v9, v10].getD j 0 ∧ [v0, v1, v2, v3, v4, v5, v6, v7, v8, v9, v10].getD j 0 ≤ ([8, 64, 64, 64, 16, 256, 32, 64, 1000, 2147483648, 2] : List Int).getD j 0) ∧ Fr [] w3 wr) (fun iv _ => 11 - (match iv with | .int _ q => q.toNat | _ => 0))
    case atStart => exact ⟨0, rfl, Nat.zero_le _, fun j hj => by omega, Fr.refl _ _⟩
    case round =>
      obtain ⟨i, rfl, hi, hall, hf⟩ := hrel
      obtain ⟨wi, hwi⟩ : ∃ wi : World, wi = wr := ⟨_, rfl⟩
      rw [← hwi] at hf ⊢
      clear hwi
      have HI := Lib.hid (And.intro hi (And.intro hall (H3.out.2.2.2.trans hf (by simp))))
      have HFI := Lib.hid hf
      have ki0 : (0 : Int) ≤ (i : Int) := by omega
      clear hi hall hf
      by_cases hlt : i < 11
      · have d1 : (i : Int) < 11 := by omega
        obtain ⟨x, hx⟩ : ∃ x, x = [v0, v1, v2, v3, v4, v5, v6, v7, v8, v9, v10].getD i 0 := ⟨_, rfl⟩
        obtain ⟨bz, hlo⟩ : ∃ lo, lo = ([1, 1, 1, 1, 1, m, 1, 1, 1, 1, 0] : List Int).getD i 0 := ⟨_, rfl⟩
        obtain ⟨tz, hhi⟩ : ∃ hi, hi = ([8, 64, 64, 64, 16, 256, 32, 64, 1000, 2147483648, 2] : List Int).getD i 0 := ⟨_, rfl⟩
        have HX := Lib.hid (And.intro hlo (And.intro hx hhi))
        obtain ⟨r, hr⟩ : ∃ r, r = (decide (bz ≤ x) && decide (x ≤ tz)) := ⟨_, rfl⟩
        have HR := Lib.hid hr
        have HLT := Lib.hid hlt
        have HCC := Lib.hid (show (∀ W, Fr [] wi W → W.cell? ⟨gn, i, none⟩ = some (.int .i64 x)) ∧ (∀ W, Fr [] wi W → W.cell? ⟨gl, i, none⟩ = some (.int .i64 bz)) ∧ (∀ W, Fr [] wi W → W.cell? ⟨gh, i, none⟩ = some (.int .i64 tz)) from
          ⟨fun W f => by rw [hx]; exact lst_get ((HFI.out.trans f (by simp)).blk H3.out.1 (by simp)) hlt, fun W f => by rw [hlo]; exact lst_get ((HFI.out.trans f (by simp)).blk H3.out.2.1 (by simp)) hlt, fun W f => by rw [hhi]; exact lst_get ((HFI.out.trans f (by simp)).blk H3.out.2.2.1 (by simp)) hlt⟩)
        clear hx hlo hhi hr hlt
        go_wp2_with fail
        refine region_grow (by kernel_rfl) (by kernel_rfl) [.is (.slice (some ⟨gn, 0, none⟩) 11 11), .is (.int .i64 i), .is (.pointer (some ⟨gn, i, none⟩)), .is (.int .i64 x), .is (.slice (some ⟨gl, 0, none⟩) 11 11), .is (.int .i64 i), .is (.pointer (some ⟨gl, i, none⟩)), .is (.int .i64 bz), .is (.slice (some ⟨gh, 0, none⟩) 11 11), .is (.int .i64 i), .is (.pointer (some ⟨gh, i, none⟩)), .is (.int .i64 tz), .is (.bool r), .is (.bool (!r))] 44 rfl (by kernel_rfl) [(0, 30), (1, 31), (2, 32), (3, 33), (4, 34), (5, 35), (6, 36), (7, 37), (8, 38), (9, 39), (10, 40), (11, 41), (12, 42), (13, 43)] (by kernel_rfl) ?_ ?_
        · intro q a1 W1 i hi hnq hd hG K hK
          have hlt : i < 14 := hi
          have hc : i = 0 ∨ i = 1 ∨ i = 2 ∨ i = 3 ∨ i = 4 ∨ i = 5 ∨ i = 6 ∨ i = 7 ∨ i = 8 ∨ i = 9 ∨ i = 10 ∨ i = 11 ∨ i = 12 ∨ i = 13 := by omega
          rcases hc with rfl | rfl | rfl | rfl | rfl | rfl | rfl | rfl | rfl | rfl | rfl | rfl | rfl | rfl
          · have e3 := hG.old 3 (by kernel_rfl)
            refine op_do rfl (wanted_none rfl) hK (fun K' hK' => ?_)
            unfold Oper.wp
            go_simp
            exact hK' _ _ (Fr.refl _ _) rfl
          · have e7 := hG.old 7 (by kernel_rfl)
            refine op_do rfl (wanted_none rfl) hK (fun K' hK' => ?_)
            unfold Oper.wp
            go_simp
            exact hK' _ _ (Fr.refl _ _) rfl
          · have e30 := hG.val (v := .slice (some ⟨gn, 0, none⟩) 11 11) 0 30 (hd _ rfl ⟨0, .data⟩ (by simp) rfl) rfl rfl
            have e31 := hG.val (v := .int .i64 i) 1 31 (hd _ rfl ⟨1, .data⟩ (by simp) rfl) rfl rfl
            refine op_do rfl (wanted_none rfl) hK (fun K' hK' => ?_)
            unfold Oper.wp
            go_simp
            exact hK' _ _ (Fr.refl _ _) rfl
          · have e32 := hG.val (v := .pointer (some ⟨gn, i, none⟩)) 2 32 (hd _ rfl ⟨2, .data⟩ (by simp) rfl) rfl rfl
            have cc := HCC.out.1 W1 hG.grown
            refine op_do rfl (wanted_none rfl) hK (fun K' hK' => ?_)
            unfold Oper.wp
            go_simp
            exact hK' _ _ (Fr.refl _ _) rfl
          · have e5 := hG.old 5 (by kernel_rfl)
            refine op_do rfl (wanted_none rfl) hK (fun K' hK' => ?_)
            unfold Oper.wp
            go_simp
            exact hK' _ _ (Fr.refl _ _) rfl
          · have e7 := hG.old 7 (by kernel_rfl)
            refine op_do rfl (wanted_none rfl) hK (fun K' hK' => ?_)
            unfold Oper.wp
            go_simp
            exact hK' _ _ (Fr.refl _ _) rfl
          · have e34 := hG.val (v := .slice (some ⟨gl, 0, none⟩) 11 11) 4 34 (hd _ rfl ⟨4, .data⟩ (by simp) rfl) rfl rfl
            have e35 := hG.val (v := .int .i64 i) 5 35 (hd _ rfl ⟨5, .data⟩ (by simp) rfl) rfl rfl
            refine op_do rfl (wanted_none rfl) hK (fun K' hK' => ?_)
            unfold Oper.wp
            go_simp
            exact hK' _ _ (Fr.refl _ _) rfl
          · have e36 := hG.val (v := .pointer (some ⟨gl, i, none⟩)) 6 36 (hd _ rfl ⟨6, .data⟩ (by simp) rfl) rfl rfl
            have cc := HCC.out.2.1 W1 hG.grown
            refine op_do rfl (wanted_none rfl) hK (fun K' hK' => ?_)
            unfold Oper.wp
            go_simp
            exact hK' _ _ (Fr.refl _ _) rfl
          · have e6 := hG.old 6 (by kernel_rfl)
            refine op_do rfl (wanted_none rfl) hK (fun K' hK' => ?_)
            unfold Oper.wp
            go_simp
            exact hK' _ _ (Fr.refl _ _) rfl
          · have e7 := hG.old 7 (by kernel_rfl)
            refine op_do rfl (wanted_none rfl) hK (fun K' hK' => ?_)
            unfold Oper.wp
            go_simp
            exact hK' _ _ (Fr.refl _ _) rfl
          · have e38 := hG.val (v := .slice (some ⟨gh, 0, none⟩) 11 11) 8 38 (hd _ rfl ⟨8, .data⟩ (by simp) rfl) rfl rfl
            have e39 := hG.val (v := .int .i64 i) 9 39 (hd _ rfl ⟨9, .data⟩ (by simp) rfl) rfl rfl
            refine op_do rfl (wanted_none rfl) hK (fun K' hK' => ?_)
            unfold Oper.wp
            go_simp
            exact hK' _ _ (Fr.refl _ _) rfl
          · have e40 := hG.val (v := .pointer (some ⟨gh, i, none⟩)) 10 40 (hd _ rfl ⟨10, .data⟩ (by simp) rfl) rfl rfl
            have cc := HCC.out.2.2 W1 hG.grown
            refine op_do rfl (wanted_none rfl) hK (fun K' hK' => ?_)
            unfold Oper.wp
            go_simp
            exact hK' _ _ (Fr.refl _ _) rfl
          · have e33 := hG.val (v := .int .i64 x) 3 33 (hd _ rfl ⟨3, .data⟩ (by simp) rfl) rfl rfl
            have e37 := hG.val (v := .int .i64 bz) 7 37 (hd _ rfl ⟨7, .data⟩ (by simp) rfl) rfl rfl
            have e41 := hG.val (v := .int .i64 tz) 11 41 (hd _ rfl ⟨11, .data⟩ (by simp) rfl) rfl rfl
            refine op_do rfl (wanted_none rfl) hK (fun K' hK' => ?_)
            unfold Oper.wp
            go_simp
            refine (between_any W1 x bz tz).mono ?_
            rintro e W2 ⟨rfl, rfl⟩
            exact hK' _ _ (Fr.refl _ _) (by show Value.bool _ = Value.bool r; rw [HR.out])
          · have e42 := hG.val (v := .bool r) 12 42 (hd _ rfl ⟨12, .data⟩ (by simp) rfl) rfl rfl
            refine op_do rfl (wanted_none rfl) hK (fun K' hK' => ?_)
            unfold Oper.wp
            go_simp
            exact hK' _ _ (Fr.refl _ _) rfl
        · intro vs W1 f1 hv
          have r0 : vs 0 = .slice (some ⟨gn, 0, none⟩) 11 11 := hv 0 30 (by decide) rfl
          have r1 : vs 1 = .int .i64 i := hv 1 31 (by decide) rfl
          have r2 : vs 2 = .pointer (some ⟨gn, i, none⟩) := hv 2 32 (by decide) rfl
          have r3 : vs 3 = .int .i64 x := hv 3 33 (by decide) rfl
          have r4 : vs 4 = .slice (some ⟨gl, 0, none⟩) 11 11 := hv 4 34 (by decide) rfl
          have r5 : vs 5 = .int .i64 i := hv 5 35 (by decide) rfl
          have r6 : vs 6 = .pointer (some ⟨gl, i, none⟩) := hv 6 36 (by decide) rfl
          have r7 : vs 7 = .int .i64 bz := hv 7 37 (by decide) rfl
          have r8 : vs 8 = .slice (some ⟨gh, 0, none⟩) 11 11 := hv 8 38 (by decide) rfl
          have r9 : vs 9 = .int .i64 i := hv 9 39 (by decide) rfl
          have r10 : vs 10 = .pointer (some ⟨gh, i, none⟩) := hv 10 40 (by decide) rfl
          have r11 : vs 11 = .int .i64 tz := hv 11 41 (by decide) rfl
          have r12 : vs 12 = .bool r := hv 12 42 (by decide) rfl
          have r13 : vs 13 = .bool (!r) := hv 13 43 (by decide) rfl
          simp only [lay, List.foldl_cons, List.foldl_nil, r0, r1, r2, r3, r4, r5, r6, r7, r8, r9, r10, r11, r12, r13]
          simp only [List.setIfInBounds_toArray, List.set_cons_zero, List.set_cons_succ]
          clear hv r0 r1 r2 r3 r4 r5 r6 r7 r8 r9 r10 r11 r12 r13
          have HF := Lib.hid (And.intro (HFI.out.trans f1 (by simp)) (HI.out.2.2.trans f1 (by simp)))
          clear f1
          cases r with
          | true =>
            go_wp2
            exact ⟨⟨i + 1, rfl, HLT.out, fun j hj => by
              rcases Nat.lt_or_ge j i with h | h
              · exact HI.out.2.1 j h
              · obtain rfl : j = i := by omega
                have h1 := HR.out
                rw [← HX.out.1, ← HX.out.2.1, ← HX.out.2.2]
                simpa using h1.symm, HF.out.1⟩, by have := HLT.out; show 11 - ((i : Int) + 1).toNat < 11 - ((i : Nat) : Int).toNat; omega⟩
          | false =>
            have HNO := Lib.hid (show ¬ (bz ≤ x ∧ x ≤ tz) from by
              have h1 := HR.out
              intro q
              simp [q.1, q.2] at h1)
            obtain rfl : E = 2 := HBAD.out i HLT.out (by rw [← HX.out.1, ← HX.out.2.1, ← HX.out.2.2]; exact HNO.out)
            go_wp2
            go_ret
            exact ⟨rfl, HF.out.2⟩
      · obtain rfl : i = 11 := by have := HI.out.1; omega
        obtain rfl : E = 0 := HOK.out HI.out.2.1
        clear hlt
        go_wp2
        go_ret
        exact ⟨rfl, HI.out.2.2⟩
end Sc
end Go.Proofs.YtbpgpjibljgiiaaGreatDoor
namespace Go.Proofs.YtbpgpjibljgiiaaGreatDoor
open Go.RowKit
set_option linter.unusedVariables false
set_option linter.unusedSimpArgs false
attribute [local go_sem] Oper.semAt_some
namespace Sc
set_option maxRecDepth 100000 in
set_option maxHeartbeats 8000000 in
theorem rcheck_any (w : World) (v0 v1 v2 v3 v4 v5 v6 v7 v8 v9 v10 : Int) (v : Value) (C : List (St × Value)) (hv : RdT w v C) (hby : ∀ x ∈ C, Byt x.1.by') (hn : C.length ≤ 2513169434917) :
    Calls Tryz.prog 19 #[.agg #[.int .i64 v0, .int .i64 v1, .int .i64 v2, .int .i64 v3, .int .i64 v4, .int .i64 v5, .int .i64 v6, .int .i64 v7, .int .i64 v8, .int .i64 v9, .int .i64 v10, v]] w fun e w' => e = .returned (.int .i64 (checkE [v0, v1, v2, v3, v4, v5, v6, v7, v8, v9, v10] (C.map Prod.fst))) ∧ Fr [] w w' := by
  obtain ⟨E, hE⟩ : ∃ E, E = checkE [v0, v1, v2, v3, v4, v5, v6, v7, v8, v9, v10] (C.map Prod.fst) := ⟨_, rfl⟩
  rw [← hE]
  obtain ⟨E1, hE1⟩ : ∃ E1, E1 = cfgE [v0, v1, v2, v3, v4, v5, v6, v7, v8, v9, v10] := ⟨_, rfl⟩
  have HE := Lib.hid (show E = if E1 ≠ 0 then E1 else if 65536 < C.length then 4 else if (C.map Prod.fst).all mayS then 0 else 284 by rw [hE, hE1]; unfold checkE; rw [List.length_map])
  have HF := Lib.hid (fun W => show Calls Tryz.prog 43 #[.agg #[.int .i64 v0, .int .i64 v1, .int .i64 v2, .int .i64 v3, .int .i64 v4, .int .i64 v5, .int .i64 v6, .int .i64 v7, .int .i64 v8, .int .i64 v9, .int .i64 v10]] W fun e w' => e = .returned (.int .i64 E1) ∧ Fr [] W w' from by rw [hE1]; exact rconfig_any W _ _ _ _ _ _ _ _ _ _ _)
  obtain ⟨p, c, rfl, hnc⟩ : ∃ p c, v = .slice p C.length c ∧ C.length ≤ c := by obtain ⟨p, c, h1, h2, -⟩ := hv.form; exact ⟨p, c, h1, h2⟩
  have HV := Lib.hid (And.intro hv (And.intro hby hn))
  obtain ⟨N, hN⟩ : ∃ N, N = C.length := ⟨_, rfl⟩
  have HN := Lib.hid hN
  rw [← hN]
  have kN : (N : Int) ≤ 2513169434917 := by omega
  have kc : (N : Int) ≤ (c : Int) := by omega
  obtain ⟨w0, hw0⟩ : ∃ w0, w.alloc (.cells #[.int .i64 v0, .int .i64 v1, .int .i64 v2, .int .i64 v3, .int .i64 v4, .int .i64 v5, .int .i64 v6, .int .i64 v7, .int .i64 v8, .int .i64 v9, .int .i64 v10, .slice p N c] 26) = w0 := ⟨_, rfl⟩
  obtain ⟨bx, hbx⟩ : ∃ bx, bx = w.heap.size := ⟨_, rfl⟩
  have H0 := Lib.hid (show Blk w0 bx #[.int .i64 v0, .int .i64 v1, .int .i64 v2, .int .i64 v3, .int .i64 v4, .int .i64 v5, .int .i64 v6, .int .i64 v7, .int .i64 v8, .int .i64 v9, .int .i64 v10, .slice p N c] 26 ∧ Fr [] w w0 by rw [← hw0]; exact ⟨Blk.new_at hbx _ _, (Fr.refl _ _).alloc _⟩)
  have HW0 := Lib.hid hw0
  have HBX := Lib.hid hbx
  clear hE hE1 hv hby hw0 hn hnc hN hbx
  go_enter Tryz.func19, Tryz.ntmps19
  go_wp2_with fail
  rw [← HBX.out]
  (with_reducible refine (HF.out _).mono ?_)
  rintro e w1 ⟨rfl, f1⟩
  rw [HW0.out] at f1
  have H1 := Lib.hid (show Blk w1 bx #[.int .i64 v0, .int .i64 v1, .int .i64 v2, .int .i64 v3, .int .i64 v4, .int .i64 v5, .int .i64 v6, .int .i64 v7, .int .i64 v8, .int .i64 v9, .int .i64 v10, .slice p N c] 26 ∧ Fr [] w w1 from ⟨f1.blk H0.out.1 (by simp), H0.out.2.trans f1 (by simp)⟩)
  have d11 := H1.out.1.at 11 (v := .slice p N c) rfl
  clear f1
  by_cases hz : E1 = 0
  · have z1 : (E1 != 0) = false := by rw [hz]; rfl
    have HE1 := Lib.hid (show E = if 65536 < C.length then 4 else if (C.map Prod.fst).all mayS then 0 else 284 by rw [HE.out, if_neg (by simpa using hz)])
    clear hz
    by_cases hl : 65536 < C.length
    · have l1 : (65536 : Int) < (N : Int) := by rw [HN.out]; omega
      have HE2 := Lib.hid (show E = 4 by rw [HE1.out, if_pos hl])
      clear hl
      go_wp2
      go_ret
      exact ⟨by rw [HE2.out]; rfl, H1.out.2⟩
    · have l1 : (N : Int) ≤ 65536 := by rw [HN.out]; omega
      have HE2 := Lib.hid (show E = if (C.map Prod.fst).all mayS then 0 else 284 by rw [HE1.out, if_neg hl])
      clear hl
      go_wp2_with fail
      go_loopw [4] (fun i wr => ∃ k : Nat, i = .int .i64 k ∧ k ≤ C.length ∧ E = (if ((C.map Prod.fst).drop k).all mayS then 0 else 284) ∧ Fr [] w1 wr) (fun i _ => C.length - (match i with | .int _ q => q.toNat | _ => 0))
      case atStart => exact ⟨0, rfl, by omega, HE2.out, Fr.refl _ _⟩
      case round =>
        obtain ⟨k, rfl, hk, ho, hf⟩ := hrel
        obtain ⟨wi, hwi⟩ : ∃ wi : World, wi = wr := ⟨_, rfl⟩
        rw [← hwi] at hf ⊢
        clear hwi d11
        have d11 := (hf.blk H1.out.1 (by simp)).at 11 (v := .slice p N c) rfl
        have HI := Lib.hid (And.intro ho (And.intro hf (H1.out.2.trans hf (by simp))))
        have k0 : (0 : Int) ≤ (k : Int) := by omega
        clear ho hf
        by_cases hlt : k < C.length
        · obtain ⟨x, hx⟩ : ∃ x, C[k]? = some x := ⟨_, List.getElem?_eq_getElem hlt⟩
          have hrd := HV.out.1.fr HI.out.2.2
          obtain ⟨g, o, c', hs, hcc, hld, -⟩ := hrd.load hx
          obtain ⟨rfl, -, rfl⟩ := Value.slice.inj hs
          have hbx := hrd.byt x (List.mem_of_getElem? hx)
          have hbb := HV.out.2.1 x (List.mem_of_getElem? hx)
          obtain ⟨st, bv⟩ := x
          have k1 : (k : Int) < (N : Int) := by rw [HN.out]; omega
          have HX := Lib.hid (And.intro hx hlt)
          have HM := Lib.hid (show Calls Tryz.prog 44 #[.agg #[.int .u8 st.kd, .int .i64 st.la, .int .i64 st.sl, .int .i64 st.pl, bv]] wi fun e w' => e = .returned (.bool (mayS st)) ∧ Fr [] wi w' from mayR_any wi st bv hbx hbb)
          clear hs hbx hx hk hlt hcc hbb hrd
          replace hld : (loadSt ⟨g, o + k * 5, none⟩).run Tryz.prog wi = .ok (.agg #[.int .u8 st.kd, .int .i64 st.la, .int .i64 st.sl, .int .i64 st.pl, bv]) wi := hld
          go_wp2_with fail
          (with_reducible refine HM.out.mono ?_)
          rintro e w3 ⟨rfl, f3⟩
          have HF3 := Lib.hid (And.intro (HI.out.2.1.trans f3 (by simp)) (HI.out.2.2.trans f3 (by simp)))
          have hd : (C.map Prod.fst).drop k = st :: (C.map Prod.fst).drop (k + 1) := by
            rw [List.drop_eq_getElem_cons (by rw [List.length_map]; exact HX.out.2)]
            have := List.getElem?_eq_some_iff.1 HX.out.1
            simp [this.2]
          cases hm : mayS st with
          | true =>
            have HE3 := Lib.hid (show E = (if ((C.map Prod.fst).drop (k + 1)).all mayS then 0 else 284) by rw [HI.out.1, hd, List.all_cons, hm, Bool.true_and])
            clear hm hd f3 hld d11
            go_wp2
            exact ⟨⟨k + 1, rfl, by have := HX.out.2; omega, HE3.out, HF3.out.1⟩, by have := HX.out.2; show C.length - ((k : Int) + 1).toNat < C.length - ((k : Nat) : Int).toNat; omega⟩
          | false =>
            have HE3 := Lib.hid (show E = 284 by rw [HI.out.1, hd, List.all_cons, hm, Bool.false_and]; rfl)
            clear hm hd f3 hld d11
            go_wp2
            go_ret
            exact ⟨by rw [HE3.out]; rfl, HF3.out.2⟩
        · obtain rfl : k = C.length := by omega
          have HE3 := Lib.hid (show E = 0 by rw [HI.out.1, List.drop_eq_nil_of_le (by rw [List.length_map]; exact Nat.le_refl _)]; rfl)
          have d1 : ¬ ((C.length : Int) < (N : Int)) := by rw [HN.out]; omega
          have d2 : (N : Int) ≤ (C.length : Int) := by rw [HN.out]; exact Int.le_refl _
          clear hk hlt
          go_wp2
          go_ret
          exact ⟨by rw [HE3.out]; rfl, HI.out.2.2⟩
  · have z1 : (E1 != 0) = true := by rw [bne_iff_ne]; exact hz
    have HE1 := Lib.hid (show E = E1 by rw [HE.out, if_pos hz])
    clear hz
    go_wp2
    go_ret
    exact ⟨by rw [HE1.out]; rfl, H1.out.2⟩
end Sc
end Go.Proofs.YtbpgpjibljgiiaaGreatDoor
namespace Go.Proofs.YtbpgpjibljgiiaaGreatDoor
open Go.RowKit Lib
set_option linter.unusedVariables false
set_option linter.unusedSimpArgs false
/-- The numbers of bytes. -/
def intsOf (l : List UInt8) : List Int := l.map fun b => (b.toNat : Int)
theorem intsOf_len (l : List UInt8) : (intsOf l).length = l.length := by simp [intsOf]
theorem intsOf_app (a b : List UInt8) : intsOf (a ++ b) = intsOf a ++ intsOf b := by simp [intsOf]
theorem bytesI_is (s : ByteArray) : bytesI s = intsOf s.data.toList := rfl
theorem strOf_ints (l : List UInt8) : strOfNums (intsOf l) = ⟨l.toArray⟩ := by
  have := Sc.strOfNums_bytesI ⟨l.toArray⟩
  rw [bytesI_is] at this
  exact this
namespace Sc
def pName : List UInt8 := [112, 97, 100, 100, 111, 99, 107, 32, 49, 10, 99, 111, 110, 102, 105, 103]
def pNums (cfg : List Int) : List UInt8 := cfg.flatMap fun n => 32 :: (numT n).data.toList
def pLines (L : List St) : List UInt8 := L.flatMap fun s => (lineT s).data.toList ++ [10]
def pHead (cfg : List Int) : List UInt8 := pName ++ pNums cfg ++ [10]
def pEnd : List UInt8 := [101, 110, 100, 10]
def printB (cfg : List Int) (L : List St) : List UInt8 := pHead cfg ++ pLines L ++ pEnd
/-- The code of a script's text, and the text. -/
def printE (cfg : List Int) (L : List St) : Int := if checkE cfg L ≠ 0 then checkE cfg L else if (L.all fun s => decide (lineE s = 0)) = true ∧ (printB cfg L).length ≤ 4194304 then 0 else 4
def printX (cfg : List Int) (L : List St) : ByteArray := if printE cfg L = 0 then ⟨(printB cfg L).toArray⟩ else ⟨#[]⟩
theorem pNums_app (a b : List Int) : pNums (a ++ b) = pNums a ++ pNums b := by simp [pNums]
theorem pLines_app (a b : List St) : pLines (a ++ b) = pLines a ++ pLines b := by simp [pLines]
theorem pNums_len : ∀ (l : List Int), (∀ n ∈ l, -9223372036854775808 ≤ n ∧ n ≤ 9223372036854775807) → (pNums l).length ≤ 21 * l.length
  | [], _ => by simp [pNums]
  | n :: l, h => by
    have ih := pNums_len l (fun x hx => h x (by simp [hx]))
    have h1 := h n (by simp)
    have h2 := numT_short n h1.1 h1.2
    have h3 : (numT n).data.toList.length = (numT n).size := size_list _
    simp only [pNums, List.flatMap_cons, List.length_append, List.length_cons] at ih ⊢
    omega
theorem lineE_codes (s : St) : lineE s = 284 ∨ lineE s = 4 ∨ lineE s = 0 := by
  unfold lineE
  split
  · exact .inl rfl
  · split
    · exact .inr (.inl rfl)
    · split
      · exact .inr (.inl rfl)
      · exact .inr (.inr rfl)
theorem printE_check {cfg : List Int} {L : List St} (h : checkE cfg L ≠ 0) : printE cfg L = checkE cfg L ∧ printX cfg L = ⟨#[]⟩ := by
  have e : printE cfg L = checkE cfg L := if_pos h
  exact ⟨e, by unfold printX; rw [if_neg (by rw [e]; exact h)]⟩
theorem printE_four {cfg : List Int} {L : List St} (h : checkE cfg L = 0) (hq : ¬ ((L.all fun s => decide (lineE s = 0)) = true ∧ (printB cfg L).length ≤ 4194304)) : printE cfg L = 4 ∧ printX cfg L = ⟨#[]⟩ := by
  have e : printE cfg L = 4 := by unfold printE; rw [if_neg (by simpa using h), if_neg hq]
  exact ⟨e, by unfold printX; rw [e]; rfl⟩
theorem printE_line {cfg : List Int} {L : List St} {s : St} (h : checkE cfg L = 0) (hs : s ∈ L) (hl : lineE s ≠ 0) : printE cfg L = 4 ∧ printX cfg L = ⟨#[]⟩ :=
  printE_four h fun q => by
    have := List.all_eq_true.1 q.1 s hs
    simp at this
    exact hl this
theorem printE_long {cfg : List Int} {L : List St} {k : Nat} (h : checkE cfg L = 0) (hl : 4194304 < (pHead cfg ++ pLines (L.take k)).length) : printE cfg L = 4 ∧ printX cfg L = ⟨#[]⟩ :=
  printE_four h fun q => by
    have e : pLines L = pLines (L.take k) ++ pLines (L.drop k) := by rw [← pLines_app, List.take_append_drop]
    have := q.2
    unfold printB at this
    rw [e] at this
    simp only [List.length_append] at this hl
    omega
theorem printE_good {cfg : List Int} {L : List St} (h : checkE cfg L = 0) (h1 : ∀ s ∈ L, lineE s = 0) (h2 : (printB cfg L).length ≤ 4194304) : printE cfg L = 0 ∧ printX cfg L = ⟨(printB cfg L).toArray⟩ := by
  have e : printE cfg L = 0 := by unfold printE; rw [if_neg (by simpa using h), if_pos ⟨List.all_eq_true.2 fun s hs => by simpa using h1 s hs, h2⟩]
  exact ⟨e, by unfold printX; rw [e]; rfl⟩
theorem pLines_one {L : List St} {k : Nat} {s : St} (h : L[k]? = some s) : pLines (L.take (k + 1)) = pLines (L.take k) ++ ((lineT s).data.toList ++ [10]) := by
  rw [List.take_add_one, h, pLines_app]
  simp [pLines]
theorem pNums_one {l : List Int} {k : Nat} {n : Int} (h : l[k]? = some n) : pNums (l.take (k + 1)) = pNums (l.take k) ++ (32 :: (numT n).data.toList) := by
  rw [List.take_add_one, h, pNums_app]
  simp [pNums]
end Sc
end Go.Proofs.YtbpgpjibljgiiaaGreatDoor
