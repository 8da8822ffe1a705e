/-
  Script, the document: a config's numbers, and whether they may be. Printed by genRc.py.
  Script, the document: Check.
  Script, plain: a script's text. No program stands here.
  Script, the document: Print. Printed by genPr.py.
-/
import Derived.Test.YtbpgpjibljgiiaaDoorLefQ
import Derived.Test.YtbpgpjibljgiiaaDoorParA
namespace Go.Proofs.YtbpgpjibljgiiaaDoor
open Go.RowKit
set_option linter.unusedVariables false
set_option linter.unusedSimpArgs false
attribute [local go_sem] Oper.semAt_some
namespace Sc
set_option maxRecDepth 100000 in
set_option maxHeartbeats 4000000 in
theorem rnumbers_any (w : World) (v0 v1 v2 v3 v4 v5 v6 v7 v8 v9 v10 : Int) : Calls Tryd.prog 49 #[.agg #[.int .i64 v0, .int .i64 v1, .int .i64 v2, .int .i64 v3, .int .i64 v4, .int .i64 v5, .int .i64 v6, .int .i64 v7, .int .i64 v8, .int .i64 v9, .int .i64 v10]] w fun e w' => ∃ g, e = .returned (.slice (some ⟨g, 0, none⟩) 11 11) ∧ Blk w' g #[.int .i64 v0, .int .i64 v1, .int .i64 v2, .int .i64 v3, .int .i64 v4, .int .i64 v5, .int .i64 v6, .int .i64 v7, .int .i64 v8, .int .i64 v9, .int .i64 v10] 2 ∧ Fr [] w w' := by
  go_enter Tryd.func49, Tryd.ntmps49
  go_wp2
  go_ret
  exact ⟨_, rfl, Blk.new_at (by simp) _ _, ((Fr.refl _ _).alloc _).alloc _⟩
theorem between_any (w : World) (x lo hi : Int) : Calls Tryd.prog 50 #[.int .i64 x, .int .i64 lo, .int .i64 hi] w fun e w' => e = .returned (.bool (decide (lo ≤ x) && decide (x ≤ hi))) ∧ w' = w := by
  by_cases h1 : lo ≤ x
  · by_cases h2 : x ≤ hi
    · go_enter Tryd.func50, Tryd.ntmps50
      go_wp2
      all_goals
        go_ret
        exact ⟨by first | (simp_all; done) | (simp_all; omega), rfl⟩
    · go_enter Tryd.func50, Tryd.ntmps50
      go_wp2
      all_goals
        go_ret
        exact ⟨by first | (simp_all; done) | (simp_all; omega), rfl⟩
  · go_enter Tryd.func50, Tryd.ntmps50
    go_wp2
    all_goals
      go_ret
      exact ⟨by first | (simp_all; done) | (simp_all; omega), rfl⟩
theorem lst_get {l : List Int} {W : World} {g : Nat} {e : TypeId} (h : Blk W g (ints l).toArray e) {i : Nat} (hi : i < l.length) : W.cell? ⟨g, i, none⟩ = some (.int .i64 (l.getD i 0)) := h.int hi
theorem cfgE_lists (v0 v1 v2 v3 v4 v5 v6 v7 v8 v9 v10 m : Int) (hm : m = max v2 v3) : ((∀ i, i < 11 → ([1, 1, 1, 1, 1, m, 1, 1, 1, 1, 0] : List Int).getD i 0 ≤ [v0, v1, v2, v3, v4, v5, v6, v7, v8, v9, v10].getD i 0 ∧ [v0, v1, v2, v3, v4, v5, v6, v7, v8, v9, v10].getD i 0 ≤ ([8, 64, 64, 64, 16, 256, 32, 64, 1000, 2147483648, 2] : List Int).getD i 0) → cfgE [v0, v1, v2, v3, v4, v5, v6, v7, v8, v9, v10] = 0) ∧ ∀ i, i < 11 → ¬ (([1, 1, 1, 1, 1, m, 1, 1, 1, 1, 0] : List Int).getD i 0 ≤ [v0, v1, v2, v3, v4, v5, v6, v7, v8, v9, v10].getD i 0 ∧ [v0, v1, v2, v3, v4, v5, v6, v7, v8, v9, v10].getD i 0 ≤ ([8, 64, 64, 64, 16, 256, 32, 64, 1000, 2147483648, 2] : List Int).getD i 0) → cfgE [v0, v1, v2, v3, v4, v5, v6, v7, v8, v9, v10] = 2 := by
  have key : allIn (sizes v0 v1 v2 v3 v4 v5 v6 v7 v8 v9 v10) = true ↔ ∀ i, i < 11 → ([1, 1, 1, 1, 1, m, 1, 1, 1, 1, 0] : List Int).getD i 0 ≤ [v0, v1, v2, v3, v4, v5, v6, v7, v8, v9, v10].getD i 0 ∧ [v0, v1, v2, v3, v4, v5, v6, v7, v8, v9, v10].getD i 0 ≤ ([8, 64, 64, 64, 16, 256, 32, 64, 1000, 2147483648, 2] : List Int).getD i 0 := by
    subst hm
    unfold allIn sizes
    simp only [List.all_cons, List.all_nil, Bool.and_eq_true, decide_eq_true_eq, Bool.and_true, and_true]
    constructor
    · intro h i hi
      have hc : i = 0 ∨ i = 1 ∨ i = 2 ∨ i = 3 ∨ i = 4 ∨ i = 5 ∨ i = 6 ∨ i = 7 ∨ i = 8 ∨ i = 9 ∨ i = 10 := by omega
      obtain ⟨h0, h1, h2, h3, h4, h5, h6, h7, h8, h9, h10⟩ := h
      rcases hc with rfl | rfl | rfl | rfl | rfl | rfl | rfl | rfl | rfl | rfl | rfl <;> assumption
    · intro h
      exact ⟨h 0 (by omega), h 1 (by omega), h 2 (by omega), h 3 (by omega), h 4 (by omega), h 5 (by omega), h 6 (by omega), h 7 (by omega), h 8 (by omega), h 9 (by omega), h 10 (by omega)⟩
  refine ⟨fun h => ?_, fun i hi h => ?_⟩
  · show (if allIn (sizes v0 v1 v2 v3 v4 v5 v6 v7 v8 v9 v10) = true then (0 : Int) else 2) = 0
    rw [if_pos (key.2 h)]
  · show (if allIn (sizes v0 v1 v2 v3 v4 v5 v6 v7 v8 v9 v10) = true then (0 : Int) else 2) = 2
    rw [if_neg (fun q => h (key.1 q i hi))]
set_option maxRecDepth 100000 in
set_option maxHeartbeats 8000000 in
theorem rconfig_any (w : World) (v0 v1 v2 v3 v4 v5 v6 v7 v8 v9 v10 : Int) : Calls Tryd.prog 22 #[.agg #[.int .i64 v0, .int .i64 v1, .int .i64 v2, .int .i64 v3, .int .i64 v4, .int .i64 v5, .int .i64 v6, .int .i64 v7, .int .i64 v8, .int .i64 v9, .int .i64 v10]] w fun e w' => e = .returned (.int .i64 (cfgE [v0, v1, v2, v3, v4, v5, v6, v7, v8, v9, v10])) ∧ Fr [] w w' := by
  obtain ⟨m, hm⟩ : ∃ m, m = max v2 v3 := ⟨_, rfl⟩
  obtain ⟨E, hE⟩ : ∃ E, E = cfgE [v0, v1, v2, v3, v4, v5, v6, v7, v8, v9, v10] := ⟨_, rfl⟩
  rw [← hE]
  have HOK := Lib.hid (fun (q : ∀ i, i < 11 → ([1, 1, 1, 1, 1, m, 1, 1, 1, 1, 0] : List Int).getD i 0 ≤ [v0, v1, v2, v3, v4, v5, v6, v7, v8, v9, v10].getD i 0 ∧ [v0, v1, v2, v3, v4, v5, v6, v7, v8, v9, v10].getD i 0 ≤ ([8, 64, 64, 64, 16, 256, 32, 64, 1000, 2147483648, 2] : List Int).getD i 0) => show E = 0 from hE.trans ((cfgE_lists v0 v1 v2 v3 v4 v5 v6 v7 v8 v9 v10 m hm).1 q))
  have HBAD := Lib.hid (fun i (hi : i < 11) (q : ¬ (([1, 1, 1, 1, 1, m, 1, 1, 1, 1, 0] : List Int).getD i 0 ≤ [v0, v1, v2, v3, v4, v5, v6, v7, v8, v9, v10].getD i 0 ∧ [v0, v1, v2, v3, v4, v5, v6, v7, v8, v9, v10].getD i 0 ≤ ([8, 64, 64, 64, 16, 256, 32, 64, 1000, 2147483648, 2] : List Int).getD i 0)) => show E = 2 from hE.trans ((cfgE_lists v0 v1 v2 v3 v4 v5 v6 v7 v8 v9 v10 m hm).2 i hi q))
  have HM := Lib.hid hm
  have f0 : Fr [] w (w.alloc (.cells #[.int .i64 v0, .int .i64 v1, .int .i64 v2, .int .i64 v3, .int .i64 v4, .int .i64 v5, .int .i64 v6, .int .i64 v7, .int .i64 v8, .int .i64 v9, .int .i64 v10] 26)) := (Fr.refl _ _).alloc _
  have HN := Lib.hid (rnumbers_any (w.alloc (.cells #[.int .i64 v0, .int .i64 v1, .int .i64 v2, .int .i64 v3, .int .i64 v4, .int .i64 v5, .int .i64 v6, .int .i64 v7, .int .i64 v8, .int .i64 v9, .int .i64 v10] 26)) v0 v1 v2 v3 v4 v5 v6 v7 v8 v9 v10)
  have HF0 := Lib.hid f0
  clear hE hm f0
  go_enter Tryd.func22, Tryd.ntmps22
  go_wp2_with fail
  (with_reducible refine HN.out.mono ?_)
  rintro e w1 ⟨gn, rfl, hb1, f1⟩
  have H1 := Lib.hid (And.intro hb1 (HF0.out.trans f1 (by simp)))
  have c2 := hb1.at 2 (v := .int .i64 v2) rfl
  have c3 := hb1.at 3 (v := .int .i64 v3) rfl
  clear hb1 f1
  go_upto_if 17 with fail
  go_cut [4] from 18 (fun s4 wx => s4 = .int .i64 m ∧ wx = w1)
  case first =>
    by_cases hg : v3 > v2
    · obtain rfl : m = v3 := by rw [HM.out]; omega
      have k1 : v2 < m := hg
      clear hg
      go_wp2_with fail
      go_meet
      case rel => exact ⟨rfl, rfl⟩
    · obtain rfl : m = v2 := by rw [HM.out]; omega
      have k1 : ¬ m < v3 := hg
      have k2 : v3 ≤ m := by omega
      clear hg
      go_wp2_with fail
      go_meet
      case rel => exact ⟨rfl, rfl⟩
  case rest =>
    obtain ⟨rfl, hwc⟩ := hcut
    obtain ⟨wc0, hwc0⟩ : ∃ x : World, x = wc := ⟨_, rfl⟩
    rw [← hwc0] at hwc ⊢
    clear hwc0
    rw [hwc]
    clear hwc
    clear c2 c3
    obtain ⟨gl, hgl⟩ : ∃ gl, gl = w1.heap.size := ⟨_, rfl⟩
    obtain ⟨w2, hw2⟩ : ∃ w2, w1.alloc (.cells #[.int .i64 1, .int .i64 1, .int .i64 1, .int .i64 1, .int .i64 1, .int .i64 m, .int .i64 1, .int .i64 1, .int .i64 1, .int .i64 1, .int .i64 0] 2) = w2 := ⟨_, rfl⟩
    obtain ⟨gh, hgh⟩ : ∃ gh, gh = w2.heap.size := ⟨_, rfl⟩
    obtain ⟨w3, hw3⟩ : ∃ w3, w2.alloc (.cells #[.int .i64 8, .int .i64 64, .int .i64 64, .int .i64 64, .int .i64 16, .int .i64 256, .int .i64 32, .int .i64 64, .int .i64 1000, .int .i64 2147483648, .int .i64 2] 2) = w3 := ⟨_, rfl⟩
    have f2 : Fr [] w1 w2 := by rw [← hw2]; exact (Fr.refl _ _).alloc _
    have f3 : Fr [] w2 w3 := by rw [← hw3]; exact (Fr.refl _ _).alloc _
    have H3 := Lib.hid (show Blk w3 gn (ints [v0, v1, v2, v3, v4, v5, v6, v7, v8, v9, v10]).toArray 2 ∧ Blk w3 gl (ints [1, 1, 1, 1, 1, m, 1, 1, 1, 1, 0]).toArray 2 ∧ Blk w3 gh (ints [8, 64, 64, 64, 16, 256, 32, 64, 1000, 2147483648, 2]).toArray 2 ∧ Fr [] w w3 from ⟨f3.blk (f2.blk H1.out.1 (by simp)) (by simp), f3.blk (by rw [← hw2]; exact Blk.new_at hgl _ _) (by simp), by rw [← hw3]; exact Blk.new_at hgh _ _, (H1.out.2.trans f2 (by simp)).trans f3 (by simp)⟩)
    have HW2 := Lib.hid (And.intro hw2 hgl)
    have HW3 := Lib.hid (And.intro hw3 hgh)
    clear hgl hw2 hgh hw3 f2 f3
    go_upto_region 6 with fail
    rw [HW2.out.1, ← HW2.out.2]
    go_upto_region 7 with fail
    rw [HW3.out.1, ← HW3.out.2]
    go_wp2_with fail
    go_loopw [7] (fun iv wr => ∃ i : Nat, iv = .int .i64 i ∧ i ≤ 11 ∧ (∀ j, j < i → ([1, 1, 1, 1, 1, m, 1, 1, 1, 1, 0] : List Int).getD j 0 ≤ [v0, v1, v2, v3, v4, v5, v6, v7, v8, v9, v10].getD j 0 ∧ [v0, v1, v2, v3, v4, v5, v6, v7, v8, v9, v10].getD j 0 ≤ ([8, 64, 64, 64, 16, 256, 32, 64, 1000, 2147483648, 2] : List Int).getD j 0) ∧ Fr [] w3 wr) (fun iv _ => 11 - (match iv with | .int _ q => q.toNat | _ => 0))
    case atStart => exact ⟨0, rfl, Nat.zero_le _, fun j hj => by omega, Fr.refl _ _⟩
    case round =>
      obtain ⟨i, rfl, hi, hall, hf⟩ := hrel
      obtain ⟨wi, hwi⟩ : ∃ wi : World, wi = wr := ⟨_, rfl⟩
      rw [← hwi] at hf ⊢
      clear hwi
      have HI := Lib.hid (And.intro hi (And.intro hall (H3.out.2.2.2.trans hf (by simp))))
      have HFI := Lib.hid hf
      have ki0 : (0 : Int) ≤ (i : Int) := by omega
      clear hi hall hf
      by_cases hlt : i < 11
      · have d1 : (i : Int) < 11 := by omega
        obtain ⟨x, hx⟩ : ∃ x, x = [v0, v1, v2, v3, v4, v5, v6, v7, v8, v9, v10].getD i 0 := ⟨_, rfl⟩
        obtain ⟨bz, hlo⟩ : ∃ lo, lo = ([1, 1, 1, 1, 1, m, 1, 1, 1, 1, 0] : List Int).getD i 0 := ⟨_, rfl⟩
        obtain ⟨tz, hhi⟩ : ∃ hi, hi = ([8, 64, 64, 64, 16, 256, 32, 64, 1000, 2147483648, 2] : List Int).getD i 0 := ⟨_, rfl⟩
        have HX := Lib.hid (And.intro hlo (And.intro hx hhi))
        obtain ⟨r, hr⟩ : ∃ r, r = (decide (bz ≤ x) && decide (x ≤ tz)) := ⟨_, rfl⟩
        have HR := Lib.hid hr
        have HLT := Lib.hid hlt
        have HCC := Lib.hid (show (∀ W, Fr [] wi W → W.cell? ⟨gn, i, none⟩ = some (.int .i64 x)) ∧ (∀ W, Fr [] wi W → W.cell? ⟨gl, i, none⟩ = some (.int .i64 bz)) ∧ (∀ W, Fr [] wi W → W.cell? ⟨gh, i, none⟩ = some (.int .i64 tz)) from
          ⟨fun W f => by rw [hx]; exact lst_get ((HFI.out.trans f (by simp)).blk H3.out.1 (by simp)) hlt, fun W f => by rw [hlo]; exact lst_get ((HFI.out.trans f (by simp)).blk H3.out.2.1 (by simp)) hlt, fun W f => by rw [hhi]; exact lst_get ((HFI.out.trans f (by simp)).blk H3.out.2.2.1 (by simp)) hlt⟩)
        clear hx hlo hhi hr hlt
        go_wp2_with fail
        refine region_grow (by kernel_rfl) (by kernel_rfl) [.is (.slice (some ⟨gn, 0, none⟩) 11 11), .is (.int .i64 i), .is (.pointer (some ⟨gn, i, none⟩)), .is (.int .i64 x), .is (.slice (some ⟨gl, 0, none⟩) 11 11), .is (.int .i64 i), .is (.pointer (some ⟨gl, i, none⟩)), .is (.int .i64 bz), .is (.slice (some ⟨gh, 0, none⟩) 11 11), .is (.int .i64 i), .is (.pointer (some ⟨gh, i, none⟩)), .is (.int .i64 tz), .is (.bool r), .is (.bool (!r))] 44 rfl (by kernel_rfl) [(0, 30), (1, 31), (2, 32), (3, 33), (4, 34), (5, 35), (6, 36), (7, 37), (8, 38), (9, 39), (10, 40), (11, 41), (12, 42), (13, 43)] (by kernel_rfl) ?_ ?_
        · intro q a1 W1 i hi hnq hd hG K hK
          have hlt : i < 14 := hi
          have hc : i = 0 ∨ i = 1 ∨ i = 2 ∨ i = 3 ∨ i = 4 ∨ i = 5 ∨ i = 6 ∨ i = 7 ∨ i = 8 ∨ i = 9 ∨ i = 10 ∨ i = 11 ∨ i = 12 ∨ i = 13 := by omega
          rcases hc with rfl | rfl | rfl | rfl | rfl | rfl | rfl | rfl | rfl | rfl | rfl | rfl | rfl | rfl
          · have e3 := hG.old 3 (by kernel_rfl)
            refine op_do rfl (wanted_none rfl) hK (fun K' hK' => ?_)
            unfold Oper.wp
            go_simp
            exact hK' _ _ (Fr.refl _ _) rfl
          · have e7 := hG.old 7 (by kernel_rfl)
            refine op_do rfl (wanted_none rfl) hK (fun K' hK' => ?_)
            unfold Oper.wp
            go_simp
            exact hK' _ _ (Fr.refl _ _) rfl
          · have e30 := hG.val (v := .slice (some ⟨gn, 0, none⟩) 11 11) 0 30 (hd _ rfl ⟨0, .data⟩ (by simp) rfl) rfl rfl
            have e31 := hG.val (v := .int .i64 i) 1 31 (hd _ rfl ⟨1, .data⟩ (by simp) rfl) rfl rfl
            refine op_do rfl (wanted_none rfl) hK (fun K' hK' => ?_)
            unfold Oper.wp
            go_simp
            exact hK' _ _ (Fr.refl _ _) rfl
          · have e32 := hG.val (v := .pointer (some ⟨gn, i, none⟩)) 2 32 (hd _ rfl ⟨2, .data⟩ (by simp) rfl) rfl rfl
            have cc := HCC.out.1 W1 hG.grown
            refine op_do rfl (wanted_none rfl) hK (fun K' hK' => ?_)
            unfold Oper.wp
            go_simp
            exact hK' _ _ (Fr.refl _ _) rfl
          · have e5 := hG.old 5 (by kernel_rfl)
            refine op_do rfl (wanted_none rfl) hK (fun K' hK' => ?_)
            unfold Oper.wp
            go_simp
            exact hK' _ _ (Fr.refl _ _) rfl
          · have e7 := hG.old 7 (by kernel_rfl)
            refine op_do rfl (wanted_none rfl) hK (fun K' hK' => ?_)
            unfold Oper.wp
            go_simp
            exact hK' _ _ (Fr.refl _ _) rfl
          · have e34 := hG.val (v := .slice (some ⟨gl, 0, none⟩) 11 11) 4 34 (hd _ rfl ⟨4, .data⟩ (by simp) rfl) rfl rfl
            have e35 := hG.val (v := .int .i64 i) 5 35 (hd _ rfl ⟨5, .data⟩ (by simp) rfl) rfl rfl
            refine op_do rfl (wanted_none rfl) hK (fun K' hK' => ?_)
            unfold Oper.wp
            go_simp
            exact hK' _ _ (Fr.refl _ _) rfl
          · have e36 := hG.val (v := .pointer (some ⟨gl, i, none⟩)) 6 36 (hd _ rfl ⟨6, .data⟩ (by simp) rfl) rfl rfl
            have cc := HCC.out.2.1 W1 hG.grown
            refine op_do rfl (wanted_none rfl) hK (fun K' hK' => ?_)
            unfold Oper.wp
            go_simp
            exact hK' _ _ (Fr.refl _ _) rfl
          · have e6 := hG.old 6 (by kernel_rfl)
            refine op_do rfl (wanted_none rfl) hK (fun K' hK' => ?_)
            unfold Oper.wp
            go_simp
            exact hK' _ _ (Fr.refl _ _) rfl
          · have e7 := hG.old 7 (by kernel_rfl)
            refine op_do rfl (wanted_none rfl) hK (fun K' hK' => ?_)
            unfold Oper.wp
            go_simp
            exact hK' _ _ (Fr.refl _ _) rfl
          · have e38 := hG.val (v := .slice (some ⟨gh, 0, none⟩) 11 11) 8 38 (hd _ rfl ⟨8, .data⟩ (by simp) rfl) rfl rfl
            have e39 := hG.val (v := .int .i64 i) 9 39 (hd _ rfl ⟨9, .data⟩ (by simp) rfl) rfl rfl
            refine op_do rfl (wanted_none rfl) hK (fun K' hK' => ?_)
            unfold Oper.wp
            go_simp
            exact hK' _ _ (Fr.refl _ _) rfl
          · have e40 := hG.val (v := .pointer (some ⟨gh, i, none⟩)) 10 40 (hd _ rfl ⟨10, .data⟩ (by simp) rfl) rfl rfl
            have cc := HCC.out.2.2 W1 hG.grown
            refine op_do rfl (wanted_none rfl) hK (fun K' hK' => ?_)
            unfold Oper.wp
            go_simp
            exact hK' _ _ (Fr.refl _ _) rfl
          · have e33 := hG.val (v := .int .i64 x) 3 33 (hd _ rfl ⟨3, .data⟩ (by simp) rfl) rfl rfl
            have e37 := hG.val (v := .int .i64 bz) 7 37 (hd _ rfl ⟨7, .data⟩ (by simp) rfl) rfl rfl
            have e41 := hG.val (v := .int .i64 tz) 11 41 (hd _ rfl ⟨11, .data⟩ (by simp) rfl) rfl rfl
            refine op_do rfl (wanted_none rfl) hK (fun K' hK' => ?_)
            unfold Oper.wp
            go_simp
            refine (between_any W1 x bz tz).mono ?_
            rintro e W2 ⟨rfl, rfl⟩
            exact hK' _ _ (Fr.refl _ _) (by show Value.bool _ = Value.bool r; rw [HR.out])
          · have e42 := hG.val (v := .bool r) 12 42 (hd _ rfl ⟨12, .data⟩ (by simp) rfl) rfl rfl
            refine op_do rfl (wanted_none rfl) hK (fun K' hK' => ?_)
            unfold Oper.wp
            go_simp
            exact hK' _ _ (Fr.refl _ _) rfl
        · intro vs W1 f1 hv
          have r0 : vs 0 = .slice (some ⟨gn, 0, none⟩) 11 11 := hv 0 30 (by decide) rfl
          have r1 : vs 1 = .int .i64 i := hv 1 31 (by decide) rfl
          have r2 : vs 2 = .pointer (some ⟨gn, i, none⟩) := hv 2 32 (by decide) rfl
          have r3 : vs 3 = .int .i64 x := hv 3 33 (by decide) rfl
          have r4 : vs 4 = .slice (some ⟨gl, 0, none⟩) 11 11 := hv 4 34 (by decide) rfl
          have r5 : vs 5 = .int .i64 i := hv 5 35 (by decide) rfl
          have r6 : vs 6 = .pointer (some ⟨gl, i, none⟩) := hv 6 36 (by decide) rfl
          have r7 : vs 7 = .int .i64 bz := hv 7 37 (by decide) rfl
          have r8 : vs 8 = .slice (some ⟨gh, 0, none⟩) 11 11 := hv 8 38 (by decide) rfl
          have r9 : vs 9 = .int .i64 i := hv 9 39 (by decide) rfl
          have r10 : vs 10 = .pointer (some ⟨gh, i, none⟩) := hv 10 40 (by decide) rfl
          have r11 : vs 11 = .int .i64 tz := hv 11 41 (by decide) rfl
          have r12 : vs 12 = .bool r := hv 12 42 (by decide) rfl
          have r13 : vs 13 = .bool (!r) := hv 13 43 (by decide) rfl
          simp only [lay, List.foldl_cons, List.foldl_nil, r0, r1, r2, r3, r4, r5, r6, r7, r8, r9, r10, r11, r12, r13]
          simp only [List.setIfInBounds_toArray, List.set_cons_zero, List.set_cons_succ]
          clear hv r0 r1 r2 r3 r4 r5 r6 r7 r8 r9 r10 r11 r12 r13
          have HF := Lib.hid (And.intro (HFI.out.trans f1 (by simp)) (HI.out.2.2.trans f1 (by simp)))
          clear f1
          cases r with
          | true =>
            go_wp2
            exact ⟨⟨i + 1, rfl, HLT.out, fun j hj => by
              rcases Nat.lt_or_ge j i with h | h
              · exact HI.out.2.1 j h
              · obtain rfl : j = i := by omega
                have h1 := HR.out
                rw [← HX.out.1, ← HX.out.2.1, ← HX.out.2.2]
                simpa using h1.symm, HF.out.1⟩, by have := HLT.out; show 11 - ((i : Int) + 1).toNat < 11 - ((i : Nat) : Int).toNat; omega⟩
          | false =>
            have HNO := Lib.hid (show ¬ (bz ≤ x ∧ x ≤ tz) from by
              have h1 := HR.out
              intro q
              simp [q.1, q.2] at h1)
            obtain rfl : E = 2 := HBAD.out i HLT.out (by rw [← HX.out.1, ← HX.out.2.1, ← HX.out.2.2]; exact HNO.out)
            go_wp2
            go_ret
            exact ⟨rfl, HF.out.2⟩
      · obtain rfl : i = 11 := by have := HI.out.1; omega
        obtain rfl : E = 0 := HOK.out HI.out.2.1
        clear hlt
        go_wp2
        go_ret
        exact ⟨rfl, HI.out.2.2⟩
end Sc
end Go.Proofs.YtbpgpjibljgiiaaDoor
namespace Go.Proofs.YtbpgpjibljgiiaaDoor
open Go.RowKit
set_option linter.unusedVariables false
set_option linter.unusedSimpArgs false
attribute [local go_sem] Oper.semAt_some
namespace Sc
set_option maxRecDepth 100000 in
set_option maxHeartbeats 8000000 in
theorem rcheck_any (w : World) (v0 v1 v2 v3 v4 v5 v6 v7 v8 v9 v10 : Int) (v : Value) (C : List (St × Value)) (hv : RdT w v C) (hby : ∀ x ∈ C, Byt x.1.by') (hn : C.length ≤ 2513169434917) :
    Calls Tryd.prog 20 #[.agg #[.int .i64 v0, .int .i64 v1, .int .i64 v2, .int .i64 v3, .int .i64 v4, .int .i64 v5, .int .i64 v6, .int .i64 v7, .int .i64 v8, .int .i64 v9, .int .i64 v10, v]] w fun e w' => e = .returned (.int .i64 (checkE [v0, v1, v2, v3, v4, v5, v6, v7, v8, v9, v10] (C.map Prod.fst))) ∧ Fr [] w w' := by
  obtain ⟨E, hE⟩ : ∃ E, E = checkE [v0, v1, v2, v3, v4, v5, v6, v7, v8, v9, v10] (C.map Prod.fst) := ⟨_, rfl⟩
  rw [← hE]
  obtain ⟨E1, hE1⟩ : ∃ E1, E1 = cfgE [v0, v1, v2, v3, v4, v5, v6, v7, v8, v9, v10] := ⟨_, rfl⟩
  have HE := Lib.hid (show E = if E1 ≠ 0 then E1 else if 65536 < C.length then 4 else if (C.map Prod.fst).all mayS then 0 else 284 by rw [hE, hE1]; unfold checkE; rw [List.length_map])
  have HF := Lib.hid (fun W => show Calls Tryd.prog 22 #[.agg #[.int .i64 v0, .int .i64 v1, .int .i64 v2, .int .i64 v3, .int .i64 v4, .int .i64 v5, .int .i64 v6, .int .i64 v7, .int .i64 v8, .int .i64 v9, .int .i64 v10]] W fun e w' => e = .returned (.int .i64 E1) ∧ Fr [] W w' from by rw [hE1]; exact rconfig_any W _ _ _ _ _ _ _ _ _ _ _)
  obtain ⟨p, c, rfl, hnc⟩ : ∃ p c, v = .slice p C.length c ∧ C.length ≤ c := by obtain ⟨p, c, h1, h2, -⟩ := hv.form; exact ⟨p, c, h1, h2⟩
  have HV := Lib.hid (And.intro hv (And.intro hby hn))
  obtain ⟨N, hN⟩ : ∃ N, N = C.length := ⟨_, rfl⟩
  have HN := Lib.hid hN
  rw [← hN]
  have kN : (N : Int) ≤ 2513169434917 := by omega
  have kc : (N : Int) ≤ (c : Int) := by omega
  obtain ⟨w0, hw0⟩ : ∃ w0, w.alloc (.cells #[.int .i64 v0, .int .i64 v1, .int .i64 v2, .int .i64 v3, .int .i64 v4, .int .i64 v5, .int .i64 v6, .int .i64 v7, .int .i64 v8, .int .i64 v9, .int .i64 v10, .slice p N c] 29) = w0 := ⟨_, rfl⟩
  obtain ⟨bx, hbx⟩ : ∃ bx, bx = w.heap.size := ⟨_, rfl⟩
  have H0 := Lib.hid (show Blk w0 bx #[.int .i64 v0, .int .i64 v1, .int .i64 v2, .int .i64 v3, .int .i64 v4, .int .i64 v5, .int .i64 v6, .int .i64 v7, .int .i64 v8, .int .i64 v9, .int .i64 v10, .slice p N c] 29 ∧ Fr [] w w0 by rw [← hw0]; exact ⟨Blk.new_at hbx _ _, (Fr.refl _ _).alloc _⟩)
  have HW0 := Lib.hid hw0
  have HBX := Lib.hid hbx
  clear hE hE1 hv hby hw0 hn hnc hN hbx
  go_enter Tryd.func20, Tryd.ntmps20
  go_wp2_with fail
  rw [← HBX.out]
  (with_reducible refine (HF.out _).mono ?_)
  rintro e w1 ⟨rfl, f1⟩
  rw [HW0.out] at f1
  have H1 := Lib.hid (show Blk w1 bx #[.int .i64 v0, .int .i64 v1, .int .i64 v2, .int .i64 v3, .int .i64 v4, .int .i64 v5, .int .i64 v6, .int .i64 v7, .int .i64 v8, .int .i64 v9, .int .i64 v10, .slice p N c] 29 ∧ Fr [] w w1 from ⟨f1.blk H0.out.1 (by simp), H0.out.2.trans f1 (by simp)⟩)
  have d11 := H1.out.1.at 11 (v := .slice p N c) rfl
  clear f1
  by_cases hz : E1 = 0
  · have z1 : (E1 != 0) = false := by rw [hz]; rfl
    have HE1 := Lib.hid (show E = if 65536 < C.length then 4 else if (C.map Prod.fst).all mayS then 0 else 284 by rw [HE.out, if_neg (by simpa using hz)])
    clear hz
    by_cases hl : 65536 < C.length
    · have l1 : (65536 : Int) < (N : Int) := by rw [HN.out]; omega
      have HE2 := Lib.hid (show E = 4 by rw [HE1.out, if_pos hl])
      clear hl
      go_wp2
      go_ret
      exact ⟨by rw [HE2.out]; rfl, H1.out.2⟩
    · have l1 : (N : Int) ≤ 65536 := by rw [HN.out]; omega
      have HE2 := Lib.hid (show E = if (C.map Prod.fst).all mayS then 0 else 284 by rw [HE1.out, if_neg hl])
      clear hl
      go_wp2_with fail
      go_loopw [4] (fun i wr => ∃ k : Nat, i = .int .i64 k ∧ k ≤ C.length ∧ E = (if ((C.map Prod.fst).drop k).all mayS then 0 else 284) ∧ Fr [] w1 wr) (fun i _ => C.length - (match i with | .int _ q => q.toNat | _ => 0))
      case atStart => exact ⟨0, rfl, by omega, HE2.out, Fr.refl _ _⟩
      case round =>
        obtain ⟨k, rfl, hk, ho, hf⟩ := hrel
        obtain ⟨wi, hwi⟩ : ∃ wi : World, wi = wr := ⟨_, rfl⟩
        rw [← hwi] at hf ⊢
        clear hwi d11
        have d11 := (hf.blk H1.out.1 (by simp)).at 11 (v := .slice p N c) rfl
        have HI := Lib.hid (And.intro ho (And.intro hf (H1.out.2.trans hf (by simp))))
        have k0 : (0 : Int) ≤ (k : Int) := by omega
        clear ho hf
        by_cases hlt : k < C.length
        · obtain ⟨x, hx⟩ : ∃ x, C[k]? = some x := ⟨_, List.getElem?_eq_getElem hlt⟩
          have hrd := HV.out.1.fr HI.out.2.2
          obtain ⟨g, o, c', hs, hcc, hld, -⟩ := hrd.load hx
          obtain ⟨rfl, -, rfl⟩ := Value.slice.inj hs
          have hbx := hrd.byt x (List.mem_of_getElem? hx)
          have hbb := HV.out.2.1 x (List.mem_of_getElem? hx)
          obtain ⟨st, bv⟩ := x
          have k1 : (k : Int) < (N : Int) := by rw [HN.out]; omega
          have HX := Lib.hid (And.intro hx hlt)
          have HM := Lib.hid (show Calls Tryd.prog 36 #[.agg #[.int .u8 st.kd, .int .i64 st.la, .int .i64 st.sl, .int .i64 st.pl, bv]] wi fun e w' => e = .returned (.bool (mayS st)) ∧ Fr [] wi w' from mayR_any wi st bv hbx hbb)
          clear hs hbx hx hk hlt hcc hbb hrd
          replace hld : (loadSt ⟨g, o + k * 5, none⟩).run Tryd.prog wi = .ok (.agg #[.int .u8 st.kd, .int .i64 st.la, .int .i64 st.sl, .int .i64 st.pl, bv]) wi := hld
          go_wp2_with fail
          (with_reducible refine HM.out.mono ?_)
          rintro e w3 ⟨rfl, f3⟩
          have HF3 := Lib.hid (And.intro (HI.out.2.1.trans f3 (by simp)) (HI.out.2.2.trans f3 (by simp)))
          have hd : (C.map Prod.fst).drop k = st :: (C.map Prod.fst).drop (k + 1) := by
            rw [List.drop_eq_getElem_cons (by rw [List.length_map]; exact HX.out.2)]
            have := List.getElem?_eq_some_iff.1 HX.out.1
            simp [this.2]
          cases hm : mayS st with
          | true =>
            have HE3 := Lib.hid (show E = (if ((C.map Prod.fst).drop (k + 1)).all mayS then 0 else 284) by rw [HI.out.1, hd, List.all_cons, hm, Bool.true_and])
            clear hm hd f3 hld d11
            go_wp2
            exact ⟨⟨k + 1, rfl, by have := HX.out.2; omega, HE3.out, HF3.out.1⟩, by have := HX.out.2; show C.length - ((k : Int) + 1).toNat < C.length - ((k : Nat) : Int).toNat; omega⟩
          | false =>
            have HE3 := Lib.hid (show E = 284 by rw [HI.out.1, hd, List.all_cons, hm, Bool.false_and]; rfl)
            clear hm hd f3 hld d11
            go_wp2
            go_ret
            exact ⟨by rw [HE3.out]; rfl, HF3.out.2⟩
        · obtain rfl : k = C.length := by omega
          have HE3 := Lib.hid (show E = 0 by rw [HI.out.1, List.drop_eq_nil_of_le (by rw [List.length_map]; exact Nat.le_refl _)]; rfl)
          have d1 : ¬ ((C.length : Int) < (N : Int)) := by rw [HN.out]; omega
          have d2 : (N : Int) ≤ (C.length : Int) := by rw [HN.out]; exact Int.le_refl _
          clear hk hlt
          go_wp2
          go_ret
          exact ⟨by rw [HE3.out]; rfl, HI.out.2.2⟩
  · have z1 : (E1 != 0) = true := by rw [bne_iff_ne]; exact hz
    have HE1 := Lib.hid (show E = E1 by rw [HE.out, if_pos hz])
    clear hz
    go_wp2
    go_ret
    exact ⟨by rw [HE1.out]; rfl, H1.out.2⟩
end Sc
end Go.Proofs.YtbpgpjibljgiiaaDoor
namespace Go.Proofs.YtbpgpjibljgiiaaDoor
open Go.RowKit Lib
set_option linter.unusedVariables false
set_option linter.unusedSimpArgs false
/-- The numbers of bytes. -/
def intsOf (l : List UInt8) : List Int := l.map fun b => (b.toNat : Int)
theorem intsOf_len (l : List UInt8) : (intsOf l).length = l.length := by simp [intsOf]
theorem intsOf_app (a b : List UInt8) : intsOf (a ++ b) = intsOf a ++ intsOf b := by simp [intsOf]
theorem bytesI_is (s : ByteArray) : bytesI s = intsOf s.data.toList := rfl
theorem strOf_ints (l : List UInt8) : strOfNums (intsOf l) = ⟨l.toArray⟩ := by
  have := Sc.strOfNums_bytesI ⟨l.toArray⟩
  rw [bytesI_is] at this
  exact this
namespace Sc
def pName : List UInt8 := [112, 97, 100, 100, 111, 99, 107, 32, 49, 10, 99, 111, 110, 102, 105, 103]
def pNums (cfg : List Int) : List UInt8 := cfg.flatMap fun n => 32 :: (numT n).data.toList
def pLines (L : List St) : List UInt8 := L.flatMap fun s => (lineT s).data.toList ++ [10]
def pHead (cfg : List Int) : List UInt8 := pName ++ pNums cfg ++ [10]
def pEnd : List UInt8 := [101, 110, 100, 10]
def printB (cfg : List Int) (L : List St) : List UInt8 := pHead cfg ++ pLines L ++ pEnd
/-- The code of a script's text, and the text. -/
def printE (cfg : List Int) (L : List St) : Int := if checkE cfg L ≠ 0 then checkE cfg L else if (L.all fun s => decide (lineE s = 0)) = true ∧ (printB cfg L).length ≤ 4194304 then 0 else 4
def printX (cfg : List Int) (L : List St) : ByteArray := if printE cfg L = 0 then ⟨(printB cfg L).toArray⟩ else ⟨#[]⟩
theorem pNums_app (a b : List Int) : pNums (a ++ b) = pNums a ++ pNums b := by simp [pNums]
theorem pLines_app (a b : List St) : pLines (a ++ b) = pLines a ++ pLines b := by simp [pLines]
theorem pNums_len : ∀ (l : List Int), (∀ n ∈ l, -9223372036854775808 ≤ n ∧ n ≤ 9223372036854775807) → (pNums l).length ≤ 21 * l.length
  | [], _ => by simp [pNums]
  | n :: l, h => by
    have ih := pNums_len l (fun x hx => h x (by simp [hx]))
    have h1 := h n (by simp)
    have h2 := numT_short n h1.1 h1.2
    have h3 : (numT n).data.toList.length = (numT n).size := size_list _
    simp only [pNums, List.flatMap_cons, List.length_append, List.length_cons] at ih ⊢
    omega
theorem lineE_codes (s : St) : lineE s = 284 ∨ lineE s = 4 ∨ lineE s = 0 := by
  unfold lineE
  split
  · exact .inl rfl
  · split
    · exact .inr (.inl rfl)
    · split
      · exact .inr (.inl rfl)
      · exact .inr (.inr rfl)
theorem printE_check {cfg : List Int} {L : List St} (h : checkE cfg L ≠ 0) : printE cfg L = checkE cfg L ∧ printX cfg L = ⟨#[]⟩ := by
  have e : printE cfg L = checkE cfg L := if_pos h
  exact ⟨e, by unfold printX; rw [if_neg (by rw [e]; exact h)]⟩
theorem printE_four {cfg : List Int} {L : List St} (h : checkE cfg L = 0) (hq : ¬ ((L.all fun s => decide (lineE s = 0)) = true ∧ (printB cfg L).length ≤ 4194304)) : printE cfg L = 4 ∧ printX cfg L = ⟨#[]⟩ := by
  have e : printE cfg L = 4 := by unfold printE; rw [if_neg (by simpa using h), if_neg hq]
  exact ⟨e, by unfold printX; rw [e]; rfl⟩
theorem printE_line {cfg : List Int} {L : List St} {s : St} (h : checkE cfg L = 0) (hs : s ∈ L) (hl : lineE s ≠ 0) : printE cfg L = 4 ∧ printX cfg L = ⟨#[]⟩ :=
  printE_four h fun q => by
    have := List.all_eq_true.1 q.1 s hs
    simp at this
    exact hl this
theorem printE_long {cfg : List Int} {L : List St} {k : Nat} (h : checkE cfg L = 0) (hl : 4194304 < (pHead cfg ++ pLines (L.take k)).length) : printE cfg L = 4 ∧ printX cfg L = ⟨#[]⟩ :=
  printE_four h fun q => by
    have e : pLines L = pLines (L.take k) ++ pLines (L.drop k) := by rw [← pLines_app, List.take_append_drop]
    have := q.2
    unfold printB at this
    rw [e] at this
    simp only [List.length_append] at this hl
    omega
theorem printE_good {cfg : List Int} {L : List St} (h : checkE cfg L = 0) (h1 : ∀ s ∈ L, lineE s = 0) (h2 : (printB cfg L).length ≤ 4194304) : printE cfg L = 0 ∧ printX cfg L = ⟨(printB cfg L).toArray⟩ := by
  have e : printE cfg L = 0 := by unfold printE; rw [if_neg (by simpa using h), if_pos ⟨List.all_eq_true.2 fun s hs => by simpa using h1 s hs, h2⟩]
  exact ⟨e, by unfold printX; rw [e]; rfl⟩
theorem pLines_one {L : List St} {k : Nat} {s : St} (h : L[k]? = some s) : pLines (L.take (k + 1)) = pLines (L.take k) ++ ((lineT s).data.toList ++ [10]) := by
  rw [List.take_add_one, h, pLines_app]
  simp [pLines]
theorem pNums_one {l : List Int} {k : Nat} {n : Int} (h : l[k]? = some n) : pNums (l.take (k + 1)) = pNums (l.take k) ++ (32 :: (numT n).data.toList) := by
  rw [List.take_add_one, h, pNums_app]
  simp [pNums]
end Sc
end Go.Proofs.YtbpgpjibljgiiaaDoor
namespace Go.Proofs.YtbpgpjibljgiiaaDoor
open Go.RowKit
set_option linter.unusedVariables false
set_option linter.unusedSimpArgs false
attribute [local go_sem] Oper.semAt_some
attribute [local go_sem ↓] loadVar29 storeVar29
attribute [local go_sem] run_loadScr run_storeScr
namespace Sc
theorem MkV.of_blk {W : World} {n0 g : Nat} {l : List Int} (h : Blk W g (u8s l).toArray 5) (hn : n0 ≤ g) : MkV W n0 (.slice (some ⟨g, 0, none⟩) l.length l.length) l :=
  ⟨g, l.length, (u8s l).toArray, (0, 0), rfl, hn, h, by simp [u8s], .inr rfl, Nat.le_refl _, fun j u hu => h.at j (by simpa using hu)⟩
theorem conv_mark {w : World} {g : Nat} {cs : Array Value} (h : Blk w g cs 5) (n c : Nat) : (convert 42 42 (.slice (some ⟨g, 0, none⟩) n c)).run Tryd.prog w = .ok (.slice (some ⟨g, 0, none⟩) n c) (w.freeze ⟨g, cs.size, none⟩ 1) := by
  have hsh : w.shape? g = some (5, cs.size) := by unfold Blk at h; simp [World.shape?, h]
  simp [convert, run_underlying Tryd.underlying42, run_underlying Tryd.underlying5, Result.andThen, markStringish, hsh]
theorem freeze_row {w : World} {g : Nat} {cs : Array Value} (h : Blk w g cs 5) (k : Nat) : (w.freeze ⟨g, k, none⟩ 1).heap[g]? = some (.cells cs 5 (k, k + 1)) := by
  unfold Blk at h
  simp [World.freeze, Array.getElem?_modify, h]
theorem freeze_fr (w : World) (g k : Nat) : Fr [g] w (w.freeze ⟨g, k, none⟩ 1) :=
  ⟨rfl, rfl, rfl, by simp [World.freeze], fun j _ hj => by
    have : g ≠ j := fun e => hj (by simp [e])
    simp [World.freeze, Array.getElem?_modify, this]⟩
theorem MkV.frozen {w : World} {n0 g : Nat} {l : List Int} (h : Blk w g (u8s l).toArray 5) (hn : n0 ≤ g) : MkV (w.freeze ⟨g, (u8s l).toArray.size, none⟩ 1) n0 (.slice (some ⟨g, 0, none⟩) l.length l.length) l := by
  have hr := freeze_row h (u8s l).toArray.size
  refine ⟨g, l.length, (u8s l).toArray, _, rfl, hn, hr, by simp [u8s], .inl (by simp [u8s]), Nat.le_refl _, fun j u hu => ?_⟩
  simp only [World.cell?, hr]
  simpa using hu
set_option maxRecDepth 100000 in
set_option maxHeartbeats 16000000 in
theorem rprint_any (w : World) (v0 v1 v2 v3 v4 v5 v6 v7 v8 v9 v10 : Int) (hcfg : ∀ n ∈ [v0, v1, v2, v3, v4, v5, v6, v7, v8, v9, v10], -9223372036854775808 ≤ n ∧ n ≤ 9223372036854775807) (v : Value) (C : List (St × Value)) (hv : RdT w v C) (hst : ∀ x ∈ C, StI x.1) (hn : C.length ≤ 2513169434917) :
    Calls Tryd.prog 18 #[.agg #[.int .i64 v0, .int .i64 v1, .int .i64 v2, .int .i64 v3, .int .i64 v4, .int .i64 v5, .int .i64 v6, .int .i64 v7, .int .i64 v8, .int .i64 v9, .int .i64 v10, v]] w fun e w' => e = .returned (.tuple #[.string (printX [v0, v1, v2, v3, v4, v5, v6, v7, v8, v9, v10] (C.map Prod.fst)), .int .i64 (printE [v0, v1, v2, v3, v4, v5, v6, v7, v8, v9, v10] (C.map Prod.fst))]) ∧ Fr [] w w' := by
  obtain ⟨R, hR⟩ : ∃ R, R = printX [v0, v1, v2, v3, v4, v5, v6, v7, v8, v9, v10] (C.map Prod.fst) := ⟨_, rfl⟩
  obtain ⟨E, hE⟩ : ∃ E, E = printE [v0, v1, v2, v3, v4, v5, v6, v7, v8, v9, v10] (C.map Prod.fst) := ⟨_, rfl⟩
  rw [← hR, ← hE]
  have HRE := Lib.hid (And.intro hR hE)
  obtain ⟨p, c, rfl, hnc⟩ : ∃ p c, v = .slice p C.length c ∧ C.length ≤ c := by obtain ⟨p, c, h1, h2, -⟩ := hv.form; exact ⟨p, c, h1, h2⟩
  have HV := Lib.hid (And.intro hv (And.intro hst hn))
  have HCF := Lib.hid hcfg
  obtain ⟨N, hN⟩ : ∃ N, N = C.length := ⟨_, rfl⟩
  have HN := Lib.hid hN
  rw [← hN]
  have kN : (N : Int) ≤ 2513169434917 := by omega
  have kc : (N : Int) ≤ (c : Int) := by omega
  obtain ⟨w0, hw0⟩ : ∃ w0, w.alloc (.cells #[.int .i64 v0, .int .i64 v1, .int .i64 v2, .int .i64 v3, .int .i64 v4, .int .i64 v5, .int .i64 v6, .int .i64 v7, .int .i64 v8, .int .i64 v9, .int .i64 v10, .slice p N c] 29) = w0 := ⟨_, rfl⟩
  obtain ⟨bx, hbx⟩ : ∃ bx, bx = w.heap.size := ⟨_, rfl⟩
  have H0 := Lib.hid (show Blk w0 bx #[.int .i64 v0, .int .i64 v1, .int .i64 v2, .int .i64 v3, .int .i64 v4, .int .i64 v5, .int .i64 v6, .int .i64 v7, .int .i64 v8, .int .i64 v9, .int .i64 v10, .slice p N c] 29 ∧ Fr [] w w0 by rw [← hw0]; exact ⟨Blk.new_at hbx _ _, (Fr.refl _ _).alloc _⟩)
  have HW0 := Lib.hid hw0
  have HBX := Lib.hid hbx
  have q1 := H0.out.1.scr rfl
  obtain ⟨E1, hE1⟩ : ∃ E1, E1 = checkE [v0, v1, v2, v3, v4, v5, v6, v7, v8, v9, v10] (C.map Prod.fst) := ⟨_, rfl⟩
  have HE1 := Lib.hid hE1
  have HCK := Lib.hid (rcheck_any w0 v0 v1 v2 v3 v4 v5 v6 v7 v8 v9 v10 (.slice p C.length c) C (hv.fr H0.out.2) (fun x hx => (hst x hx).2.2.2.2) hn)
  rw [← hE1, ← hN] at HCK
  clear hR hE hv hst hcfg hw0 hn hnc hN hbx hE1
  go_enter Tryd.func18, Tryd.ntmps18
  go_upto_region 1 with fail
  rw [HW0.out, ← HBX.out]
  go_wp2_with fail
  (with_reducible refine HCK.out.mono ?_)
  rintro e w1 ⟨rfl, f1⟩
  have H1 := Lib.hid (show Blk w1 bx #[.int .i64 v0, .int .i64 v1, .int .i64 v2, .int .i64 v3, .int .i64 v4, .int .i64 v5, .int .i64 v6, .int .i64 v7, .int .i64 v8, .int .i64 v9, .int .i64 v10, .slice p N c] 29 ∧ Fr [] w w1 from ⟨f1.blk H0.out.1 (by simp), H0.out.2.trans f1 (by simp)⟩)
  clear f1 q1
  by_cases hz : E1 = 0
  · have z1 : (E1 != 0) = false := by rw [hz]; rfl
    have HZ := Lib.hid (show checkE [v0, v1, v2, v3, v4, v5, v6, v7, v8, v9, v10] (C.map Prod.fst) = 0 by rw [← HE1.out]; exact hz)
    clear hz
    obtain ⟨g5, hg5⟩ : ∃ g5, g5 = w1.heap.size := ⟨_, rfl⟩
    obtain ⟨w2, hw2⟩ : ∃ w2, w1.alloc (.cells #[.int .u8 112, .int .u8 97, .int .u8 100, .int .u8 100, .int .u8 111, .int .u8 99, .int .u8 107, .int .u8 32, .int .u8 49, .int .u8 10, .int .u8 99, .int .u8 111, .int .u8 110, .int .u8 102, .int .u8 105, .int .u8 103] 5) = w2 := ⟨_, rfl⟩
    have f2 : Fr [] w1 w2 := by rw [← hw2]; exact (Fr.refl _ _).alloc _
    have hbk : Blk w2 g5 (u8s (intsOf pName)).toArray 5 := by rw [← hw2]; exact Blk.new_at hg5 _ _
    obtain ⟨w2f, hw2f⟩ : ∃ W, w2.freeze ⟨g5, (u8s (intsOf pName)).toArray.size, none⟩ 1 = W := ⟨_, rfl⟩
    have cvm := conv_mark hbk 16 16
    rw [hw2f] at cvm
    have ffz : Fr [g5] w2 w2f := by rw [← hw2f]; exact freeze_fr _ _ _
    have hbx2 := f2.blk H1.out.1 (by simp)
    have H2 := Lib.hid (show Blk w2f bx #[.int .i64 v0, .int .i64 v1, .int .i64 v2, .int .i64 v3, .int .i64 v4, .int .i64 v5, .int .i64 v6, .int .i64 v7, .int .i64 v8, .int .i64 v9, .int .i64 v10, .slice p N c] 29 ∧ Fr [] w w2f ∧ MkV w2f w.heap.size (.slice (some ⟨g5, 0, none⟩) 16 16) (intsOf pName) from ⟨ffz.blk hbx2 (by have := hbk.ne hbx2 (by decide); simp; omega), (H1.out.2.trans f2 (by simp)).trans ffz (fun x hx => .inr (by have := H1.out.2.size; simp at hx; omega)), by rw [← hw2f]; exact MkV.frozen (l := intsOf pName) hbk (by rw [hg5]; exact H1.out.2.size)⟩)
    have HW2 := Lib.hid (And.intro hw2 hg5)
    rw [hg5] at cvm
    rw [← hw2] at cvm
    clear f2 hw2 hg5 hbk ffz hbx2 hw2f
    go_upto_region 5 with fail
    rw [← HW2.out.2]
    clear cvm
    have hb2 := H2.out.1
    have c0 := hb2.at 0 (v := .int .i64 v0) rfl
    have c1 := hb2.at 1 (v := .int .i64 v1) rfl
    have c2 := hb2.at 2 (v := .int .i64 v2) rfl
    have c3 := hb2.at 3 (v := .int .i64 v3) rfl
    have c4 := hb2.at 4 (v := .int .i64 v4) rfl
    have c5 := hb2.at 5 (v := .int .i64 v5) rfl
    have c6 := hb2.at 6 (v := .int .i64 v6) rfl
    have c7 := hb2.at 7 (v := .int .i64 v7) rfl
    have c8 := hb2.at 8 (v := .int .i64 v8) rfl
    have c9 := hb2.at 9 (v := .int .i64 v9) rfl
    have c10 := hb2.at 10 (v := .int .i64 v10) rfl
    clear hb2
    go_wp2_with fail
    (with_reducible refine (rnumbers_any w2f v0 v1 v2 v3 v4 v5 v6 v7 v8 v9 v10).mono ?_)
    rintro e w3 ⟨gn, rfl, hb3, f3⟩
    have H3 := Lib.hid (show Blk w3 bx #[.int .i64 v0, .int .i64 v1, .int .i64 v2, .int .i64 v3, .int .i64 v4, .int .i64 v5, .int .i64 v6, .int .i64 v7, .int .i64 v8, .int .i64 v9, .int .i64 v10, .slice p N c] 29 ∧ Blk w3 gn (ints [v0, v1, v2, v3, v4, v5, v6, v7, v8, v9, v10]).toArray 2 ∧ Fr [] w w3 ∧ MkV w3 w.heap.size (.slice (some ⟨g5, 0, none⟩) 16 16) (intsOf pName) from ⟨f3.blk H2.out.1 (by simp), hb3, H2.out.2.1.trans f3 (by simp), H2.out.2.2.fr f3 (by simp)⟩)
    clear c0 c1 c2 c3 c4 c5 c6 c7 c8 c9 c10 hb3 f3
    go_wp2_with fail
    go_loopw [5, 7] (fun sv iv wr => ∃ i : Nat, iv = .int .i64 i ∧ i ≤ 11 ∧ MkV wr w.heap.size sv (intsOf (pName ++ pNums ([v0, v1, v2, v3, v4, v5, v6, v7, v8, v9, v10].take i))) ∧ Blk wr bx #[.int .i64 v0, .int .i64 v1, .int .i64 v2, .int .i64 v3, .int .i64 v4, .int .i64 v5, .int .i64 v6, .int .i64 v7, .int .i64 v8, .int .i64 v9, .int .i64 v10, .slice p N c] 29 ∧ Blk wr gn (ints [v0, v1, v2, v3, v4, v5, v6, v7, v8, v9, v10]).toArray 2 ∧ Fr [] w wr) (fun _ iv _ => 11 - (match iv with | .int _ q => q.toNat | _ => 0))
    case atStart => exact ⟨0, rfl, Nat.zero_le _, by simpa [pNums] using H3.out.2.2.2, H3.out.1, H3.out.2.1, H3.out.2.2.1⟩
    case round =>
      obtain ⟨i, rfl, hi, hm, hbb, hgg, hf⟩ := hrel
      obtain ⟨wi, hwi⟩ : ∃ wi : World, wi = wr := ⟨_, rfl⟩
      rw [← hwi] at hf hm hbb hgg ⊢
      clear hwi
      obtain ⟨gm, cm, rfl⟩ := hm.form
      obtain ⟨D, hD⟩ : ∃ D, D = intsOf (pName ++ pNums ([v0, v1, v2, v3, v4, v5, v6, v7, v8, v9, v10].take i)) := ⟨_, rfl⟩
      obtain ⟨M, hM⟩ : ∃ M, M = D.length := ⟨_, rfl⟩
      rw [← hD] at hm ⊢
      have hDl : D.length ≤ 300 := by
        rw [hD, intsOf_len, List.length_append]
        have h1 := pNums_len ([v0, v1, v2, v3, v4, v5, v6, v7, v8, v9, v10].take i) (fun n hn => HCF.out n (List.mem_of_mem_take hn))
        have h2 : ([v0, v1, v2, v3, v4, v5, v6, v7, v8, v9, v10].take i).length ≤ 11 := by rw [List.length_take]; simp; omega
        have h3 : pName.length = 16 := rfl
        omega
      have HI := Lib.hid (And.intro hi (And.intro hm (And.intro hbb (And.intro hgg (And.intro hf hDl)))))
      have HD := Lib.hid hD
      have HMM := Lib.hid hM
      have ki0 : (0 : Int) ≤ (i : Int) := by omega
      rw [← hM]
      clear hi hm hbb hgg hf hD hM hDl
      by_cases hlt : i < 11
      · have d1 : (i : Int) < 11 := by omega
        obtain ⟨n, hnn⟩ : ∃ n, n = [v0, v1, v2, v3, v4, v5, v6, v7, v8, v9, v10].getD i 0 := ⟨_, rfl⟩
        have hget : [v0, v1, v2, v3, v4, v5, v6, v7, v8, v9, v10][i]? = some n := by rw [hnn, List.getD_eq_getElem?_getD, List.getElem?_eq_getElem (show i < [v0, v1, v2, v3, v4, v5, v6, v7, v8, v9, v10].length from hlt)]; rfl
        have cc : wi.cell? ⟨gn, i, none⟩ = some (.int .i64 n) := by rw [hnn]; exact lst_get HI.out.2.2.2.1 hlt
        have hnr := HCF.out n (List.mem_of_getElem? hget)
        obtain ⟨X, hX⟩ : ∃ X, X = numT n := ⟨_, rfl⟩
        have hxs : X.size ≤ 20 := by rw [hX]; exact numT_short n hnr.1 hnr.2
        have HIT := Lib.hid (numR_any wi n hnr.1 hnr.2)
        rw [← hX] at HIT
        obtain ⟨X2, hX2⟩ : ∃ X2, X2 = (⟨#[32]⟩ : ByteArray) ++ X := ⟨_, rfl⟩
        have hcat : (⟨#[32]⟩ : ByteArray) ++ X = X2 := hX2.symm
        have hcs : 1 + X.size ≤ 9223372036854775807 := by omega
        have HX2 := Lib.hid (show X2.size ≤ 21 ∧ D ++ bytesI X2 = intsOf (pName ++ pNums ([v0, v1, v2, v3, v4, v5, v6, v7, v8, v9, v10].take (i + 1))) from ⟨by rw [hX2, ByteArray.size_append, show (⟨#[32]⟩ : ByteArray).size = 1 from rfl]; omega, by
          rw [HD.out, bytesI_is, ← intsOf_app, pNums_one hget, hX2, hX]
          simp⟩)
        have HLT := Lib.hid hlt
        clear hnn hget hnr hX hxs hX2 hlt
        go_wp2_with fail
        (with_reducible refine HIT.out.mono ?_)
        rintro e w5 ⟨rfl, f5⟩
        have HA := Lib.hid (show MkV w5 w.heap.size (.slice (some ⟨gm, 0, none⟩) M cm) D by rw [HMM.out]; exact HI.out.2.1.fr f5 (by simp))
        have HF5 := Lib.hid (HI.out.2.2.2.2.1.trans f5 (by simp))
        have HB5 := Lib.hid (And.intro (f5.blk HI.out.2.2.1 (by simp)) (f5.blk HI.out.2.2.2.1 (by simp)))
        clear f5 cc
        go_wp2_with (at_builtin; go_must (refine wpList_appS HA.out HF5.out.size rfl _ _ rfl rfl X2 rfl (by have := HI.out.2.2.2.2.2; have := HX2.out.1; omega) ?_); intro sv6 w6 hm6 f6; have H6 := Lib.hid (And.intro hm6 f6); clear hm6 f6)
        exact ⟨⟨i + 1, rfl, HLT.out, by rw [← HX2.out.2]; exact H6.out.1, H6.out.2.blk HB5.out.1 (fun q => HA.out.ne (by simpa using q) HB5.out.1 (by decide) rfl), H6.out.2.blk HB5.out.2 (fun q => HA.out.ne (by simpa using q) HB5.out.2 (by decide) rfl), HF5.out.trans H6.out.2 (fun x hx => .inr (HA.out.lo (by simpa using hx)).1)⟩, by have := HLT.out; show 11 - ((i : Int) + 1).toNat < 11 - ((i : Nat) : Int).toNat; omega⟩
      · obtain rfl : i = 11 := by have := HI.out.1; omega
        clear hlt
        have HA := Lib.hid (show MkV (wi.alloc (.cells #[.int .u8 10] 5)) w.heap.size (.slice (some ⟨gm, 0, none⟩) M cm) D by rw [HMM.out]; exact HI.out.2.1.fr ((Fr.refl [] wi).alloc _) (by simp))
        have HFA := Lib.hid (show Fr [] w (wi.alloc (.cells #[.int .u8 10] 5)) from HI.out.2.2.2.2.1.alloc _)
        have HBA := Lib.hid (show Blk (wi.alloc (.cells #[.int .u8 10] 5)) bx #[.int .i64 v0, .int .i64 v1, .int .i64 v2, .int .i64 v3, .int .i64 v4, .int .i64 v5, .int .i64 v6, .int .i64 v7, .int .i64 v8, .int .i64 v9, .int .i64 v10, .slice p N c] 29 from HI.out.2.2.1.alloc _)
        have HNW := Lib.hid (new_list wi [.int .u8 10] 5 _ rfl)
        have HD6 := Lib.hid (show D ++ [10] = intsOf (pHead [v0, v1, v2, v3, v4, v5, v6, v7, v8, v9, v10] ++ pLines ((C.map Prod.fst).take 0)) ∧ (D ++ [10]).length ≤ 301 from ⟨by
          rw [HD.out, List.take_of_length_le (by simp)]
          simp [pHead, pLines, intsOf], by rw [List.length_append]; have := HI.out.2.2.2.2.2; simp; omega⟩)
        go_upto_region 11 with (at_builtin; go_must (refine wpList_appM HA.out HFA.out.size rfl _ _ rfl rfl ⟨wi.heap.size, 0, none⟩ 1 1 [10] rfl rfl HNW.out (by have := HI.out.2.2.2.2.2; omega) ?_); intro sv6 w6 hm6 f6; have H6 := Lib.hid (And.intro hm6 f6); clear hm6 f6)
        have H7 := Lib.hid (show MkV w6 w.heap.size sv6 (intsOf (pHead [v0, v1, v2, v3, v4, v5, v6, v7, v8, v9, v10] ++ pLines ((C.map Prod.fst).take 0))) ∧ (intsOf (pHead [v0, v1, v2, v3, v4, v5, v6, v7, v8, v9, v10] ++ pLines ((C.map Prod.fst).take 0))).length ≤ 301 ∧ Blk w6 bx #[.int .i64 v0, .int .i64 v1, .int .i64 v2, .int .i64 v3, .int .i64 v4, .int .i64 v5, .int .i64 v6, .int .i64 v7, .int .i64 v8, .int .i64 v9, .int .i64 v10, .slice p N c] 29 ∧ Fr [] w w6 from ⟨by rw [← HD6.out.1]; exact H6.out.1, by rw [← HD6.out.1]; exact HD6.out.2, H6.out.2.blk HBA.out (fun q => HA.out.ne (by simpa using q) HBA.out (by decide) rfl), HFA.out.trans H6.out.2 (fun x hx => .inr (HA.out.lo (by simpa using hx)).1)⟩)
        go_wp2_with fail
        go_loopw [5, 8] (fun sv iv wr => ∃ k : Nat, iv = .int .i64 k ∧ k ≤ C.length ∧ MkV wr w.heap.size sv (intsOf (pHead [v0, v1, v2, v3, v4, v5, v6, v7, v8, v9, v10] ++ pLines ((C.map Prod.fst).take k))) ∧ (intsOf (pHead [v0, v1, v2, v3, v4, v5, v6, v7, v8, v9, v10] ++ pLines ((C.map Prod.fst).take k))).length ≤ 8388700 ∧ (∀ s ∈ (C.map Prod.fst).take k, lineE s = 0) ∧ Blk wr bx #[.int .i64 v0, .int .i64 v1, .int .i64 v2, .int .i64 v3, .int .i64 v4, .int .i64 v5, .int .i64 v6, .int .i64 v7, .int .i64 v8, .int .i64 v9, .int .i64 v10, .slice p N c] 29 ∧ Fr [] w wr) (fun _ iv _ => C.length - (match iv with | .int _ q => q.toNat | _ => 0))
        case atStart => exact ⟨0, rfl, Nat.zero_le _, H7.out.1, by have := H7.out.2.1; omega, by simp, H7.out.2.2.1, H7.out.2.2.2⟩
        case round =>
          obtain ⟨k, rfl, hk, hm, hlen, hall, hbb, hf⟩ := hrel
          obtain ⟨wj, hwj⟩ : ∃ wj : World, wj = wr := ⟨_, rfl⟩
          rw [← hwj] at hf hm hbb ⊢
          clear hwj
          obtain ⟨ge, ce, rfl⟩ := hm.form
          obtain ⟨D2, hD2⟩ : ∃ D2, D2 = intsOf (pHead [v0, v1, v2, v3, v4, v5, v6, v7, v8, v9, v10] ++ pLines ((C.map Prod.fst).take k)) := ⟨_, rfl⟩
          obtain ⟨M2, hM2⟩ : ∃ M2, M2 = D2.length := ⟨_, rfl⟩
          rw [← hD2] at hm hlen ⊢
          have d11 := hbb.at 11 (v := .slice p N c) rfl
          have HJ := Lib.hid (And.intro hk (And.intro hm (And.intro hlen (And.intro hall (And.intro hbb hf)))))
          have HD2 := Lib.hid hD2
          have HM2 := Lib.hid hM2
          have kk0 : (0 : Int) ≤ (k : Int) := by omega
          rw [← hM2]
          clear hk hm hlen hall hbb hf hD2 hM2
          by_cases hlt : k < C.length
          · have d1 : (k : Int) < (N : Int) := by rw [HN.out]; omega
            obtain ⟨x, hx⟩ : ∃ x, C[k]? = some x := ⟨_, List.getElem?_eq_getElem hlt⟩
            have hrd := HV.out.1.fr HJ.out.2.2.2.2.2
            obtain ⟨g, o, c', hs, hcc, hld, -⟩ := hrd.load hx
            obtain ⟨rfl, -, rfl⟩ := Value.slice.inj hs
            have hbx := hrd.byt x (List.mem_of_getElem? hx)
            have hsti := HV.out.2.1 x (List.mem_of_getElem? hx)
            obtain ⟨st, bv⟩ := x
            obtain ⟨bp, bc, hbe, -⟩ := hbx
            have hbx := hrd.byt _ (List.mem_of_getElem? hx)
            have hlu : (u8s st.by').length = st.by'.length := by simp [u8s]
            replace hbe : bv = .slice bp st.by'.length bc := by have h2 : bv = .slice bp (u8s st.by').length bc := hbe; rw [h2, hlu]
            subst hbe
            have hgs : (C.map Prod.fst)[k]? = some st := by rw [List.getElem?_map, hx]; rfl
            have HX := Lib.hid (And.intro hgs (And.intro hlt (show st ∈ C.map Prod.fst from List.mem_of_getElem? hgs)))
            obtain ⟨X, hX⟩ : ∃ X, X = lineX st := ⟨_, rfl⟩
            obtain ⟨LE, hLE⟩ : ∃ LE, LE = lineE st := ⟨_, rfl⟩
            have HLX := Lib.hid (And.intro hX hLE)
            have HRL := Lib.hid (show Calls Tryd.prog 12 #[.agg #[.int .u8 st.kd, .int .i64 st.la, .int .i64 st.sl, .int .i64 st.pl, .slice bp st.by'.length bc]] wj fun e w' => e = .returned (.tuple #[.string X, .int .i64 LE]) ∧ Fr [] wj w' from by rw [hX, hLE]; exact rline_any wj st bp bc hsti hbx)
            replace hld : (loadSt ⟨g, o + k * 5, none⟩).run Tryd.prog wj = .ok (.agg #[.int .u8 st.kd, .int .i64 st.la, .int .i64 st.sl, .int .i64 st.pl, .slice bp st.by'.length bc]) wj := hld
            clear hs hcc hbx hsti hx hrd hgs hX hLE hlt hlu
            go_wp2_with fail
            (with_reducible refine HRL.out.mono ?_)
            rintro e w8 ⟨rfl, f8⟩
            have H8 := Lib.hid (show MkV w8 w.heap.size (.slice (some ⟨ge, 0, none⟩) M2 ce) D2 ∧ Blk w8 bx _ 29 ∧ Fr [] w w8 from ⟨by rw [HM2.out]; exact HJ.out.2.1.fr f8 (by simp), f8.blk HJ.out.2.2.2.2.1 (by simp), HJ.out.2.2.2.2.2.trans f8 (by simp)⟩)
            clear f8 hld d11
            by_cases hle : LE = 0
            · have e1 : (LE != 0) = false := by rw [hle]; rfl
              have HLE := Lib.hid (show lineE st = 0 ∧ X = lineT st ∧ X.size ≤ 4194304 from by
                have h0 : lineE st = 0 := by rw [← HLX.out.2]; exact hle
                have hxt : lineX st = lineT st := if_pos h0
                refine ⟨h0, by rw [HLX.out.1, hxt], ?_⟩
                rw [HLX.out.1, hxt]
                refine Nat.le_of_not_lt fun q => ?_
                cases hmm : mayS st with
                | false => rw [(lineE_bad hmm).1] at h0; cases h0
                | true => rw [(lineE_over hmm q).1] at h0; cases h0)
              clear hle
              by_cases hov : 4194304 < D2.length
              · have k9 : (4194304 : Int) < (M2 : Int) := by rw [HM2.out]; omega
                have hp := printE_long (k := k) HZ.out (by have := hov; rw [HD2.out, intsOf_len] at this; exact this)
                obtain rfl : E = 4 := by rw [HRE.out.2, hp.1]
                obtain rfl : R = ⟨#[]⟩ := by rw [HRE.out.1, hp.2]
                clear hov hp
                go_wp2
                go_ret2
                exact ⟨rfl, H8.out.2.2⟩
              · have k9 : (M2 : Int) ≤ 4194304 := by rw [HM2.out]; omega
                have HOV := Lib.hid hov
                clear hov
                have HNX := Lib.hid (show D2 ++ bytesI X ++ [10] = intsOf (pHead [v0, v1, v2, v3, v4, v5, v6, v7, v8, v9, v10] ++ pLines ((C.map Prod.fst).take (k + 1))) ∧ (D2 ++ bytesI X ++ [10]).length ≤ 8388700 from ⟨by
                  rw [HD2.out, pLines_one (List.getElem?_eq_some_iff.2 ⟨_, (List.getElem?_eq_some_iff.1 HX.out.1).2⟩), HLE.out.2.1, bytesI_is]
                  simp [intsOf], by
                  rw [List.length_append, List.length_append, bytesI_len]
                  have := HOV.out; have := HLE.out.2.2
                  simp; omega⟩)
                obtain ⟨M9, hM9⟩ : ∃ M9, (D2 ++ bytesI X).length = M9 := ⟨_, rfl⟩
                have HM9 := Lib.hid hM9
                clear hM9
                go_upto_region 18 with (at_builtin; go_must (refine wpList_appS H8.out.1 H8.out.2.2.size rfl _ _ rfl rfl X rfl (by have := HOV.out; have := HLE.out.2.2; omega) ?_); intro sv9 w9 hm9 f9; obtain ⟨gr, cr, rfl⟩ := hm9.form; have H9 := Lib.hid (And.intro hm9 f9); clear hm9 f9; rw [HM9.out])
                have hb9 := H9.out.2.blk H8.out.2.1 (fun q => H8.out.1.ne (by simpa using q) H8.out.2.1 (by decide) rfl)
                have hf9 := H8.out.2.2.trans H9.out.2 (fun x hx => .inr (H8.out.1.lo (by simpa using hx)).1)
                have HA9 := Lib.hid (show MkV (w9.alloc (.cells #[.int .u8 10] 5)) w.heap.size (.slice (some ⟨gr, 0, none⟩) M9 cr) (D2 ++ bytesI X) by rw [← HM9.out]; exact H9.out.1.fr ((Fr.refl [] w9).alloc _) (by simp))
                have HF9 := Lib.hid (show Fr [] w (w9.alloc (.cells #[.int .u8 10] 5)) from hf9.alloc _)
                have HB9 := Lib.hid (show Blk (w9.alloc (.cells #[.int .u8 10] 5)) bx _ 29 from hb9.alloc _)
                have HNW9 := Lib.hid (new_list w9 [.int .u8 10] 5 _ rfl)
                clear hb9 hf9
                go_wp2_with (at_builtin; go_must (refine wpList_appM HA9.out HF9.out.size rfl _ _ rfl rfl ⟨w9.heap.size, 0, none⟩ 1 1 [10] rfl rfl HNW9.out (by have := HNX.out.2; rw [List.length_append] at this; simp at this; simp; omega) ?_); intro sv10 w10 hm10 f10; have H10 := Lib.hid (And.intro hm10 f10); clear hm10 f10)
                exact ⟨⟨k + 1, rfl, HX.out.2.1, by rw [← HNX.out.1]; exact H10.out.1, by rw [← HNX.out.1]; exact HNX.out.2, fun s hs => by
                  rw [List.take_add_one, HX.out.1] at hs
                  simp only [List.mem_append, Option.toList_some, List.mem_singleton] at hs
                  rcases hs with hs | rfl
                  · exact HJ.out.2.2.2.1 s hs
                  · exact HLE.out.1, H10.out.2.blk HB9.out (fun q => HA9.out.ne (by simpa using q) HB9.out (by decide) rfl), HF9.out.trans H10.out.2 (fun x hx => .inr (HA9.out.lo (by simpa using hx)).1)⟩, by have := HX.out.2.1; show C.length - ((k : Int) + 1).toNat < C.length - ((k : Nat) : Int).toNat; omega⟩
            · have e1 : (LE != 0) = true := by rw [bne_iff_ne]; exact hle
              have hp := printE_line HZ.out HX.out.2.2 (by rw [← HLX.out.2]; exact hle)
              obtain rfl : E = 4 := by rw [HRE.out.2, hp.1]
              obtain rfl : R = ⟨#[]⟩ := by rw [HRE.out.1, hp.2]
              clear hle hp
              go_wp2
              go_ret2
              exact ⟨rfl, H8.out.2.2⟩
          · obtain rfl : k = C.length := by have := HJ.out.1; omega
            have d1 : ¬ ((C.length : Int) < (N : Int)) := by rw [HN.out]; omega
            have d2 : (N : Int) ≤ (C.length : Int) := by rw [HN.out]; exact Int.le_refl _
            clear hlt
            have HT := Lib.hid (show D2 ++ bytesI ⟨#[101, 110, 100, 10]⟩ = intsOf (printB [v0, v1, v2, v3, v4, v5, v6, v7, v8, v9, v10] (C.map Prod.fst)) from by
              rw [HD2.out, List.take_of_length_le (by rw [List.length_map]; exact Nat.le_refl _), bytesI_is, ← intsOf_app]
              rfl)
            have HAL := Lib.hid (show ∀ s ∈ C.map Prod.fst, lineE s = 0 from fun s hs => HJ.out.2.2.2.1 s (by rw [List.take_of_length_le (by rw [List.length_map]; exact Nat.le_refl _)]; exact hs))
            have HAE := Lib.hid (show MkV wj w.heap.size (.slice (some ⟨ge, 0, none⟩) M2 ce) D2 by rw [HM2.out]; exact HJ.out.2.1)
            obtain ⟨M9, hM9'⟩ : ∃ M9, (D2 ++ bytesI ⟨#[101, 110, 100, 10]⟩).length = M9 := ⟨_, rfl⟩
            have HMM9 := Lib.hid hM9'
            clear hM9'
            go_upto_region 20 with (at_builtin; go_must (refine wpList_appS HAE.out HJ.out.2.2.2.2.2.size rfl _ _ rfl rfl ⟨#[101, 110, 100, 10]⟩ rfl (by have := HJ.out.2.2.1; show D2.length + 4 ≤ _; omega) ?_); intro sv9 w9 hm9 f9; obtain ⟨gr, cr, rfl⟩ := hm9.form; have H9 := Lib.hid (And.intro hm9 f9); clear hm9 f9; rw [HMM9.out])
            have hf9 := HJ.out.2.2.2.2.2.trans H9.out.2 (fun x hx => .inr (HAE.out.lo (by simpa using hx)).1)
            have HF9 := Lib.hid hf9
            have hM9 := HMM9.out.symm
            have cvv : (convert 42 9 (.slice (some ⟨gr, 0, none⟩) M9 cr)).run Tryd.prog w9 = .ok (.string ⟨(printB [v0, v1, v2, v3, v4, v5, v6, v7, v8, v9, v10] (C.map Prod.fst)).toArray⟩) w9 := by
              have := conv_rd _ _ _ H9.out.1.rd
              rw [← hM9, HT.out, strOf_ints] at this
              exact this
            have HM9 := Lib.hid (show M9 = (printB [v0, v1, v2, v3, v4, v5, v6, v7, v8, v9, v10] (C.map Prod.fst)).length by rw [hM9, HT.out, intsOf_len])
            obtain ⟨T, hT⟩ : ∃ T : ByteArray, T = ⟨(printB [v0, v1, v2, v3, v4, v5, v6, v7, v8, v9, v10] (C.map Prod.fst)).toArray⟩ := ⟨_, rfl⟩
            rw [← hT] at cvv
            have HTT := Lib.hid hT
            clear hf9 hM9 hT d11 d1 d2
            by_cases hov : M9 ≤ 4194304
            · have k9 : (M9 : Int) ≤ 4194304 := by omega
              have hp := printE_good HZ.out HAL.out (by rw [← HM9.out]; exact hov)
              obtain rfl : E = 0 := by rw [HRE.out.2, hp.1]
              obtain rfl : R = T := by rw [HRE.out.1, hp.2, HTT.out]
              clear hov hp
              go_wp2
              go_ret2
              exact ⟨rfl, HF9.out⟩
            · have k9 : (4194304 : Int) < (M9 : Int) := by omega
              have hp := printE_four HZ.out (fun q => hov (by rw [HM9.out]; exact q.2))
              obtain rfl : E = 4 := by rw [HRE.out.2, hp.1]
              obtain rfl : R = ⟨#[]⟩ := by rw [HRE.out.1, hp.2]
              clear hov hp cvv
              go_wp2
              go_ret2
              exact ⟨rfl, HF9.out⟩
  · have z1 : (E1 != 0) = true := by rw [bne_iff_ne]; exact hz
    have hp := printE_check (cfg := [v0, v1, v2, v3, v4, v5, v6, v7, v8, v9, v10]) (L := C.map Prod.fst) (by rw [← HE1.out]; exact hz)
    obtain rfl : E = E1 := by rw [HRE.out.2, hp.1, HE1.out]
    obtain rfl : R = ⟨#[]⟩ := by rw [HRE.out.1, hp.2]
    clear hz hp
    go_wp2
    go_ret2
    exact ⟨rfl, H1.out.2⟩
end Sc
end Go.Proofs.YtbpgpjibljgiiaaDoor
