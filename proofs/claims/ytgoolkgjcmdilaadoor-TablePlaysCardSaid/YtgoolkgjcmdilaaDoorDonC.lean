/-
  done: a table gone through; any other step.
-/
import Derived.Test.YtgoolkgjcmdilaaDoorDonB
namespace Go.Proofs.YtgoolkgjcmdilaaDoor
open Go.RowKit
set_option linter.unusedVariables false
set_option linter.unusedSimpArgs false
attribute [local go_sem] Oper.semAt_some

def Stab.rdp (R : IPs) : Stab := ⟨fun v W => RdP W v R, fun u W W' f h => h.fr f⟩
theorem stopR_zero (R : IPs) : stopR R 0 = R := by unfold stopR; rw [if_neg (by omega)]
set_option maxRecDepth 100000 in
set_option maxHeartbeats 4000000 in
theorem done_all (w : World) (b c : Nat) (v u : Value) (R : IPs) (room id x : Int) (oth all : Bool) (h : PT b c v u R room w) (hi : U32 id) :
    Calls Tryd.prog 21 #[.pointer (some ⟨b, 0, none⟩), .pointer (some ⟨c, 0, none⟩), .agg #[.int .i64 4, .bool oth, .int .u32 id, .int .i64 x, .bool all]] w (DonePost w b c v u R room) := by
  obtain ⟨up, uc, rfl⟩ := own_form h.ref.own
  have hb1 := Blk.new w #[.int .i64 4, .bool oth, .int .u32 id, .int .i64 x, .bool all] 55
  have f01 : Fr [] w (w.alloc (.cells #[.int .i64 4, .bool oth, .int .u32 id, .int .i64 x, .bool all] 55)) := (Fr.refl [] w).alloc _
  have d0 := hb1.at 0 (v := .int .i64 4) rfl
  have d2 := hb1.at 2 (v := .int .u32 id) rfl
  have d3 := hb1.at 3 (v := .int .i64 x) rfl
  have d4 := hb1.at 4 (v := .bool all) rfl
  have HH := Lib.hid (And.intro h (And.intro f01 (And.intro hb1 hi)))
  clear f01 h hi hb1
  go_enter Tryd.func21, Tryd.ntmps21
  go_wp2_with fail
  obtain ⟨h, f01, hb1, hi⟩ := HH.out
  clear HH d0 d2 d3 d4
  obtain ⟨w1, hw1⟩ : ∃ w1, w.alloc (.cells #[.int .i64 4, .bool oth, .int .u32 id, .int .i64 x, .bool all] 55) = w1 := ⟨_, rfl⟩
  obtain ⟨bx, hbx⟩ : ∃ bx, bx = w.heap.size := ⟨_, rfl⟩
  rw [← hbx] at hb1 ⊢
  rw [hw1] at hb1 f01 ⊢
  have hP := h.grow f01
  have HP := Lib.hid (And.intro hP (And.intro f01 (And.intro hb1 hbx)))
  have HI := Lib.hid hi
  clear hP f01 h hi hw1 hbx
  (with_reducible refine (allV_any w1 b v (mapV R) room HP.out.1.tab).mono ?_)
  rintro e w2 ⟨bk, lv, rfl, hbk, hcp, hge, f2⟩
  have db := f2.blk hb1 (by simp)
  have ht2 := HP.out.1.tab.grow f2
  have hr2 := HP.out.1.ref.grow f2
  have hv2 : VHeld bk lv (mapV R) w2 := ⟨hbk, hcp.1⟩
  have HQ := Lib.hid (And.intro db (And.intro ht2 (And.intro hr2 (And.intro hv2 f2))))
  clear db ht2 hr2 hv2 hbk hcp hge f2 hb1
  go_wp2_with fail
  refine region_grow (by kernel_rfl) (by kernel_rfl) [.is (.func (.func 67) #[] #[.pointer (some ⟨bk, 0, none⟩)]), .is (.pointer (some ⟨bx, 3, none⟩)), .is (.int .i64 x), .rdp (stopR R x), .is (.pointer (some ⟨c, 0, none⟩)), .is (.pointer (some ⟨c, 0, none⟩)), .is (.pointer (some ⟨c, 1, none⟩)), .is (.slice up R.length uc), .is (.pointer (some ⟨bx, 3, none⟩)), .is (.int .i64 x), .rdp (stopR R x), .is (.bool true), .is (.bool true), .is (.func (.func 67) #[] #[.pointer (some ⟨bk, 0, none⟩)]), .rdp R, .is (.pointer (some ⟨c, 0, none⟩)), .is (.pointer (some ⟨c, 0, none⟩)), .is (.pointer (some ⟨c, 1, none⟩)), .is (.slice up R.length uc), .is (.bool true), .is (.bool true), .is (.bool true), .is (.pointer (some ⟨b, 0, none⟩)), .is (.int .i64 R.length), .is (.pointer (some ⟨c, 0, none⟩)), .is (.pointer (some ⟨c, 0, none⟩)), .is (.pointer (some ⟨c, 1, none⟩)), .is (.slice up R.length uc), .is (.int .i64 R.length), .is (.bool true), .is (.bool true), .is (.bool true), .is (.pointer (some ⟨b, 0, none⟩)), .is (.int .i64 room), .is (.pointer (some ⟨c, 0, none⟩)), .is (.pointer (some ⟨c, 0, none⟩)), .is (.pointer (some ⟨c, 0, none⟩)), .is (.int .i64 room), .is (.bool true), .is (.bool true), .is (.bool true)] 188 rfl (by kernel_rfl) [(0, 148), (1, 149), (2, 150), (3, 151), (4, 152), (5, 153), (6, 154), (7, 155), (8, 156), (9, 157), (10, 158), (11, 159), (12, 160), (13, 161), (14, 162), (15, 163), (16, 164), (17, 165), (18, 166), (19, 167), (20, 168), (21, 169), (22, 170), (23, 171), (24, 172), (25, 173), (26, 174), (27, 175), (28, 176), (29, 177), (30, 178), (31, 179), (32, 180), (33, 181), (34, 182), (35, 183), (36, 184), (37, 185), (38, 186), (39, 187), (40, 6)] (by kernel_rfl) ?_ ?_
  · intro q a1 W1 i hi hnq hd hG K hK
    have hlt : i < 41 := hi
    have hc : i = 0 ∨ i = 1 ∨ i = 2 ∨ i = 3 ∨ i = 4 ∨ i = 5 ∨ i = 6 ∨ i = 7 ∨ i = 8 ∨ i = 9 ∨ i = 10 ∨ i = 11 ∨ i = 12 ∨ i = 13 ∨ i = 14 ∨ i = 15 ∨ i = 16 ∨ i = 17 ∨ i = 18 ∨ i = 19 ∨ i = 20 ∨ i = 21 ∨ i = 22 ∨ i = 23 ∨ i = 24 ∨ i = 25 ∨ i = 26 ∨ i = 27 ∨ i = 28 ∨ i = 29 ∨ i = 30 ∨ i = 31 ∨ i = 32 ∨ i = 33 ∨ i = 34 ∨ i = 35 ∨ i = 36 ∨ i = 37 ∨ i = 38 ∨ i = 39 ∨ i = 40 := by omega
    rcases hc with rfl | rfl | rfl | rfl | rfl | rfl | rfl | rfl | rfl | rfl | rfl | rfl | rfl | rfl | rfl | rfl | rfl | rfl | rfl | rfl | rfl | rfl | rfl | rfl | rfl | rfl | rfl | rfl | rfl | rfl | rfl | rfl | rfl | rfl | rfl | rfl | rfl | rfl | rfl | rfl | rfl
    · have e25 := hG.old 25 (by kernel_rfl)
      refine op_do rfl (wanted_none rfl) hK (fun K' hK' => ?_)
      unfold Oper.wp
      go_simp
      exact hK' _ _ (Fr.refl _ _) rfl
    · have e5 := hG.old 5 (by kernel_rfl)
      refine op_do rfl (wanted_none rfl) hK (fun K' hK' => ?_)
      unfold Oper.wp
      go_simp
      exact hK' _ _ (Fr.refl _ _) rfl
    · have e149 := hG.val (v := .pointer (some ⟨bx, 3, none⟩)) 1 149 (hd _ rfl ⟨1, .data⟩ (by simp) rfl) rfl rfl
      have m3 := (hG.grown.cell (a := ⟨bx, 3, none⟩) HQ.out.1.lt (by simp)).trans (HQ.out.1.at 3 (v := .int .i64 x) rfl)
      refine op_do rfl (wanted_none rfl) hK (fun K' hK' => ?_)
      unfold Oper.wp
      go_simp
      exact hK' _ _ (Fr.refl _ _) rfl
    · have e148 := hG.val (v := .func (.func 67) #[] #[.pointer (some ⟨bk, 0, none⟩)]) 0 148 (hd _ rfl ⟨0, .data⟩ (by simp) rfl) rfl rfl
      have e150 := hG.val (v := .int .i64 x) 2 150 (hd _ rfl ⟨2, .data⟩ (by simp) rfl) rfl rfl
      refine op_do rfl (wanted_none rfl) hK (fun K' hK' => ?_)
      unfold Oper.wp
      go_simp
      refine (pairs_any W1 bk lv R x (HQ.out.2.2.2.1.fr0 hG.grown) HQ.out.2.2.1.lim).mono ?_
      rintro e W2 ⟨v2, rfl, hrd, f⟩
      exact hK' _ _ f hrd
    · have e1 := hG.old 1 (by kernel_rfl)
      refine op_do rfl (wanted_none rfl) hK (fun K' hK' => ?_)
      unfold Oper.wp
      go_simp
      exact hK' _ _ (Fr.refl _ _) rfl
    · have e152 := hG.val (v := .pointer (some ⟨c, 0, none⟩)) 4 152 (hd _ rfl ⟨4, .data⟩ (by simp) rfl) rfl rfl
      refine op_do rfl (wanted_none rfl) hK (fun K' hK' => ?_)
      unfold Oper.wp
      go_simp
      exact hK' _ _ (Fr.refl _ _) rfl
    · have e153 := hG.val (v := .pointer (some ⟨c, 0, none⟩)) 5 153 (hd _ rfl ⟨5, .data⟩ (by simp) rfl) rfl rfl
      refine op_do rfl (wanted_none rfl) hK (fun K' hK' => ?_)
      unfold Oper.wp
      go_simp
      exact hK' _ _ (Fr.refl _ _) rfl
    · have e154 := hG.val (v := .pointer (some ⟨c, 1, none⟩)) 6 154 (hd _ rfl ⟨6, .data⟩ (by simp) rfl) rfl rfl
      have hrc := HQ.out.2.2.1.grow hG.grown
      have q0 := hrc.hd.at 0 (v := .int .i64 room) rfl
      have q1 := hrc.hd.at 1 (v := .slice up R.length uc) rfl
      clear hrc
      refine op_do rfl (wanted_none rfl) hK (fun K' hK' => ?_)
      unfold Oper.wp
      go_simp
      exact hK' _ _ (Fr.refl _ _) rfl
    · have e5 := hG.old 5 (by kernel_rfl)
      refine op_do rfl (wanted_none rfl) hK (fun K' hK' => ?_)
      unfold Oper.wp
      go_simp
      exact hK' _ _ (Fr.refl _ _) rfl
    · have e156 := hG.val (v := .pointer (some ⟨bx, 3, none⟩)) 8 156 (hd _ rfl ⟨8, .data⟩ (by simp) rfl) rfl rfl
      have m3 := (hG.grown.cell (a := ⟨bx, 3, none⟩) HQ.out.1.lt (by simp)).trans (HQ.out.1.at 3 (v := .int .i64 x) rfl)
      refine op_do rfl (wanted_none rfl) hK (fun K' hK' => ?_)
      unfold Oper.wp
      go_simp
      exact hK' _ _ (Fr.refl _ _) rfl
    · have e155 := hG.val (v := .slice up R.length uc) 7 155 (hd _ rfl ⟨7, .data⟩ (by simp) rfl) rfl rfl
      have e157 := hG.val (v := .int .i64 x) 9 157 (hd _ rfl ⟨9, .data⟩ (by simp) rfl) rfl rfl
      refine op_do rfl (wanted_none rfl) hK (fun K' hK' => ?_)
      unfold Oper.wp
      go_simp
      refine (first_any W1 _ R x (HQ.out.2.2.1.grow hG.grown).rd HQ.out.2.2.1.lim).mono ?_
      rintro e W2 ⟨⟨v2, rfl, hrd⟩, rfl⟩
      exact hK' _ _ (Fr.refl _ _) hrd
    · obtain ⟨u3, e151, s3⟩ := hG.get 3 151 (hd _ rfl ⟨3, .data⟩ (by simp) rfl) rfl
      obtain ⟨u10, e158, s10⟩ := hG.get 10 158 (hd _ rfl ⟨10, .data⟩ (by simp) rfl) rfl
      refine op_do rfl (wanted_none rfl) hK (fun K' hK' => ?_)
      unfold Oper.wp
      go_simp
      refine (same_any W1 _ _ (stopR R x) s3 s10 (Nat.le_trans (stopR_len _ _) HQ.out.2.2.1.lim)).mono ?_
      rintro e W2 ⟨rfl, f⟩
      exact hK' _ _ f rfl
    · have e159 := hG.val (v := .bool true) 11 159 (hd _ rfl ⟨11, .data⟩ (by simp) rfl) rfl rfl
      refine op_do rfl (wanted_none rfl) hK (fun K' hK' => ?_)
      unfold Oper.wp
      go_simp
      exact hK' _ _ (Fr.refl _ _) rfl
    · have e25 := hG.old 25 (by kernel_rfl)
      have eg := hG.val (v := .bool true) 12 160 (hd _ rfl ⟨12, .guard⟩ (by simp) rfl) rfl rfl
      refine op_do rfl (by simp [Region.wanted, yielded, eg]) hK (fun K' hK' => ?_)
      unfold Oper.wp
      go_simp
      exact hK' _ _ (Fr.refl _ _) rfl
    · have e161 := hG.val (v := .func (.func 67) #[] #[.pointer (some ⟨bk, 0, none⟩)]) 13 161 (hd _ rfl ⟨13, .data⟩ (by simp) rfl) rfl rfl
      have eg := hG.val (v := .bool true) 12 160 (hd _ rfl ⟨12, .guard⟩ (by simp) rfl) rfl rfl
      refine op_do rfl (by simp [Region.wanted, yielded, eg]) hK (fun K' hK' => ?_)
      unfold Oper.wp
      go_simp
      refine (pairs_any W1 bk lv R 0 (HQ.out.2.2.2.1.fr0 hG.grown) HQ.out.2.2.1.lim).mono ?_
      rintro e W2 ⟨v2, rfl, hrd, f⟩
      exact hK' _ _ f hrd
    · have e1 := hG.old 1 (by kernel_rfl)
      have eg := hG.val (v := .bool true) 12 160 (hd _ rfl ⟨12, .guard⟩ (by simp) rfl) rfl rfl
      refine op_do rfl (by simp [Region.wanted, yielded, eg]) hK (fun K' hK' => ?_)
      unfold Oper.wp
      go_simp
      exact hK' _ _ (Fr.refl _ _) rfl
    · have e163 := hG.val (v := .pointer (some ⟨c, 0, none⟩)) 15 163 (hd _ rfl ⟨15, .data⟩ (by simp) rfl) rfl rfl
      have eg := hG.val (v := .bool true) 12 160 (hd _ rfl ⟨12, .guard⟩ (by simp) rfl) rfl rfl
      refine op_do rfl (by simp [Region.wanted, yielded, eg]) hK (fun K' hK' => ?_)
      unfold Oper.wp
      go_simp
      exact hK' _ _ (Fr.refl _ _) rfl
    · have e164 := hG.val (v := .pointer (some ⟨c, 0, none⟩)) 16 164 (hd _ rfl ⟨16, .data⟩ (by simp) rfl) rfl rfl
      have eg := hG.val (v := .bool true) 12 160 (hd _ rfl ⟨12, .guard⟩ (by simp) rfl) rfl rfl
      refine op_do rfl (by simp [Region.wanted, yielded, eg]) hK (fun K' hK' => ?_)
      unfold Oper.wp
      go_simp
      exact hK' _ _ (Fr.refl _ _) rfl
    · have e165 := hG.val (v := .pointer (some ⟨c, 1, none⟩)) 17 165 (hd _ rfl ⟨17, .data⟩ (by simp) rfl) rfl rfl
      have eg := hG.val (v := .bool true) 12 160 (hd _ rfl ⟨12, .guard⟩ (by simp) rfl) rfl rfl
      have hrc := HQ.out.2.2.1.grow hG.grown
      have q0 := hrc.hd.at 0 (v := .int .i64 room) rfl
      have q1 := hrc.hd.at 1 (v := .slice up R.length uc) rfl
      clear hrc
      refine op_do rfl (by simp [Region.wanted, yielded, eg]) hK (fun K' hK' => ?_)
      unfold Oper.wp
      go_simp
      exact hK' _ _ (Fr.refl _ _) rfl
    · obtain ⟨u14, e162, s14⟩ := hG.get 14 162 (hd _ rfl ⟨14, .data⟩ (by simp) rfl) rfl
      have e166 := hG.val (v := .slice up R.length uc) 18 166 (hd _ rfl ⟨18, .data⟩ (by simp) rfl) rfl rfl
      have eg := hG.val (v := .bool true) 12 160 (hd _ rfl ⟨12, .guard⟩ (by simp) rfl) rfl rfl
      refine op_do rfl (by simp [Region.wanted, yielded, eg]) hK (fun K' hK' => ?_)
      unfold Oper.wp
      go_simp
      refine (same_any W1 _ _ (R) s14 (HQ.out.2.2.1.grow hG.grown).rd HQ.out.2.2.1.lim).mono ?_
      rintro e W2 ⟨rfl, f⟩
      exact hK' _ _ f rfl
    · have e160 := hG.val (v := .bool true) 12 160 (hd _ rfl ⟨12, .data⟩ (by simp) rfl) rfl rfl
      have e167 := hG.val (v := .bool true) 19 167 (hd _ rfl ⟨19, .data⟩ (by simp) rfl) rfl rfl
      refine op_do rfl (wanted_none rfl) hK (fun K' hK' => ?_)
      unfold Oper.wp
      go_simp
      exact hK' _ _ (Fr.refl _ _) rfl
    · have e168 := hG.val (v := .bool true) 20 168 (hd _ rfl ⟨20, .data⟩ (by simp) rfl) rfl rfl
      refine op_do rfl (wanted_none rfl) hK (fun K' hK' => ?_)
      unfold Oper.wp
      go_simp
      exact hK' _ _ (Fr.refl _ _) rfl
    · have e0 := hG.old 0 (by kernel_rfl)
      have eg := hG.val (v := .bool true) 21 169 (hd _ rfl ⟨21, .guard⟩ (by simp) rfl) rfl rfl
      refine op_do rfl (by simp [Region.wanted, yielded, eg]) hK (fun K' hK' => ?_)
      unfold Oper.wp
      go_simp
      exact hK' _ _ (Fr.refl _ _) rfl
    · have e170 := hG.val (v := .pointer (some ⟨b, 0, none⟩)) 22 170 (hd _ rfl ⟨22, .data⟩ (by simp) rfl) rfl rfl
      have eg := hG.val (v := .bool true) 21 169 (hd _ rfl ⟨21, .guard⟩ (by simp) rfl) rfl rfl
      refine op_do rfl (by simp [Region.wanted, yielded, eg]) hK (fun K' hK' => ?_)
      unfold Oper.wp
      go_simp
      refine (lenV_any W1 b v (mapV R) room (HQ.out.2.1.grow hG.grown)).mono ?_
      rintro e W2 ⟨rfl, rfl⟩
      exact hK' _ _ (Fr.refl _ _) (by rw [mapV_len]; rfl)
    · have e1 := hG.old 1 (by kernel_rfl)
      have eg := hG.val (v := .bool true) 21 169 (hd _ rfl ⟨21, .guard⟩ (by simp) rfl) rfl rfl
      refine op_do rfl (by simp [Region.wanted, yielded, eg]) hK (fun K' hK' => ?_)
      unfold Oper.wp
      go_simp
      exact hK' _ _ (Fr.refl _ _) rfl
    · have e172 := hG.val (v := .pointer (some ⟨c, 0, none⟩)) 24 172 (hd _ rfl ⟨24, .data⟩ (by simp) rfl) rfl rfl
      have eg := hG.val (v := .bool true) 21 169 (hd _ rfl ⟨21, .guard⟩ (by simp) rfl) rfl rfl
      refine op_do rfl (by simp [Region.wanted, yielded, eg]) hK (fun K' hK' => ?_)
      unfold Oper.wp
      go_simp
      exact hK' _ _ (Fr.refl _ _) rfl
    · have e173 := hG.val (v := .pointer (some ⟨c, 0, none⟩)) 25 173 (hd _ rfl ⟨25, .data⟩ (by simp) rfl) rfl rfl
      have eg := hG.val (v := .bool true) 21 169 (hd _ rfl ⟨21, .guard⟩ (by simp) rfl) rfl rfl
      refine op_do rfl (by simp [Region.wanted, yielded, eg]) hK (fun K' hK' => ?_)
      unfold Oper.wp
      go_simp
      exact hK' _ _ (Fr.refl _ _) rfl
    · have e174 := hG.val (v := .pointer (some ⟨c, 1, none⟩)) 26 174 (hd _ rfl ⟨26, .data⟩ (by simp) rfl) rfl rfl
      have eg := hG.val (v := .bool true) 21 169 (hd _ rfl ⟨21, .guard⟩ (by simp) rfl) rfl rfl
      have hrc := HQ.out.2.2.1.grow hG.grown
      have q0 := hrc.hd.at 0 (v := .int .i64 room) rfl
      have q1 := hrc.hd.at 1 (v := .slice up R.length uc) rfl
      clear hrc
      refine op_do rfl (by simp [Region.wanted, yielded, eg]) hK (fun K' hK' => ?_)
      unfold Oper.wp
      go_simp
      exact hK' _ _ (Fr.refl _ _) rfl
    · have e175 := hG.val (v := .slice up R.length uc) 27 175 (hd _ rfl ⟨27, .data⟩ (by simp) rfl) rfl rfl
      have eg := hG.val (v := .bool true) 21 169 (hd _ rfl ⟨21, .guard⟩ (by simp) rfl) rfl rfl
      refine op_do rfl (by simp [Region.wanted, yielded, eg]) hK (fun K' hK' => ?_)
      unfold Oper.wp
      go_simp
      exact hK' _ _ (Fr.refl _ _) rfl
    · have e171 := hG.val (v := .int .i64 R.length) 23 171 (hd _ rfl ⟨23, .data⟩ (by simp) rfl) rfl rfl
      have e176 := hG.val (v := .int .i64 R.length) 28 176 (hd _ rfl ⟨28, .data⟩ (by simp) rfl) rfl rfl
      have eg := hG.val (v := .bool true) 21 169 (hd _ rfl ⟨21, .guard⟩ (by simp) rfl) rfl rfl
      refine op_do rfl (by simp [Region.wanted, yielded, eg]) hK (fun K' hK' => ?_)
      unfold Oper.wp
      go_simp
      exact hK' _ _ (Fr.refl _ _) rfl
    · have e169 := hG.val (v := .bool true) 21 169 (hd _ rfl ⟨21, .data⟩ (by simp) rfl) rfl rfl
      have e177 := hG.val (v := .bool true) 29 177 (hd _ rfl ⟨29, .data⟩ (by simp) rfl) rfl rfl
      refine op_do rfl (wanted_none rfl) hK (fun K' hK' => ?_)
      unfold Oper.wp
      go_simp
      exact hK' _ _ (Fr.refl _ _) rfl
    · have e178 := hG.val (v := .bool true) 30 178 (hd _ rfl ⟨30, .data⟩ (by simp) rfl) rfl rfl
      refine op_do rfl (wanted_none rfl) hK (fun K' hK' => ?_)
      unfold Oper.wp
      go_simp
      exact hK' _ _ (Fr.refl _ _) rfl
    · have e0 := hG.old 0 (by kernel_rfl)
      have eg := hG.val (v := .bool true) 31 179 (hd _ rfl ⟨31, .guard⟩ (by simp) rfl) rfl rfl
      refine op_do rfl (by simp [Region.wanted, yielded, eg]) hK (fun K' hK' => ?_)
      unfold Oper.wp
      go_simp
      exact hK' _ _ (Fr.refl _ _) rfl
    · have e180 := hG.val (v := .pointer (some ⟨b, 0, none⟩)) 32 180 (hd _ rfl ⟨32, .data⟩ (by simp) rfl) rfl rfl
      have eg := hG.val (v := .bool true) 31 179 (hd _ rfl ⟨31, .guard⟩ (by simp) rfl) rfl rfl
      refine op_do rfl (by simp [Region.wanted, yielded, eg]) hK (fun K' hK' => ?_)
      unfold Oper.wp
      go_simp
      refine (roomV_any W1 b v (mapV R) room (HQ.out.2.1.grow hG.grown)).mono ?_
      rintro e W2 ⟨rfl, rfl⟩
      exact hK' _ _ (Fr.refl _ _) rfl
    · have e1 := hG.old 1 (by kernel_rfl)
      have eg := hG.val (v := .bool true) 31 179 (hd _ rfl ⟨31, .guard⟩ (by simp) rfl) rfl rfl
      refine op_do rfl (by simp [Region.wanted, yielded, eg]) hK (fun K' hK' => ?_)
      unfold Oper.wp
      go_simp
      exact hK' _ _ (Fr.refl _ _) rfl
    · have e182 := hG.val (v := .pointer (some ⟨c, 0, none⟩)) 34 182 (hd _ rfl ⟨34, .data⟩ (by simp) rfl) rfl rfl
      have eg := hG.val (v := .bool true) 31 179 (hd _ rfl ⟨31, .guard⟩ (by simp) rfl) rfl rfl
      refine op_do rfl (by simp [Region.wanted, yielded, eg]) hK (fun K' hK' => ?_)
      unfold Oper.wp
      go_simp
      exact hK' _ _ (Fr.refl _ _) rfl
    · have e183 := hG.val (v := .pointer (some ⟨c, 0, none⟩)) 35 183 (hd _ rfl ⟨35, .data⟩ (by simp) rfl) rfl rfl
      have eg := hG.val (v := .bool true) 31 179 (hd _ rfl ⟨31, .guard⟩ (by simp) rfl) rfl rfl
      refine op_do rfl (by simp [Region.wanted, yielded, eg]) hK (fun K' hK' => ?_)
      unfold Oper.wp
      go_simp
      exact hK' _ _ (Fr.refl _ _) rfl
    · have e184 := hG.val (v := .pointer (some ⟨c, 0, none⟩)) 36 184 (hd _ rfl ⟨36, .data⟩ (by simp) rfl) rfl rfl
      have eg := hG.val (v := .bool true) 31 179 (hd _ rfl ⟨31, .guard⟩ (by simp) rfl) rfl rfl
      have hrc := HQ.out.2.2.1.grow hG.grown
      have q0 := hrc.hd.at 0 (v := .int .i64 room) rfl
      have q1 := hrc.hd.at 1 (v := .slice up R.length uc) rfl
      clear hrc
      refine op_do rfl (by simp [Region.wanted, yielded, eg]) hK (fun K' hK' => ?_)
      unfold Oper.wp
      go_simp
      exact hK' _ _ (Fr.refl _ _) rfl
    · have e181 := hG.val (v := .int .i64 room) 33 181 (hd _ rfl ⟨33, .data⟩ (by simp) rfl) rfl rfl
      have e185 := hG.val (v := .int .i64 room) 37 185 (hd _ rfl ⟨37, .data⟩ (by simp) rfl) rfl rfl
      have eg := hG.val (v := .bool true) 31 179 (hd _ rfl ⟨31, .guard⟩ (by simp) rfl) rfl rfl
      refine op_do rfl (by simp [Region.wanted, yielded, eg]) hK (fun K' hK' => ?_)
      unfold Oper.wp
      go_simp
      exact hK' _ _ (Fr.refl _ _) rfl
    · have e179 := hG.val (v := .bool true) 31 179 (hd _ rfl ⟨31, .data⟩ (by simp) rfl) rfl rfl
      have e186 := hG.val (v := .bool true) 38 186 (hd _ rfl ⟨38, .data⟩ (by simp) rfl) rfl rfl
      refine op_do rfl (wanted_none rfl) hK (fun K' hK' => ?_)
      unfold Oper.wp
      go_simp
      exact hK' _ _ (Fr.refl _ _) rfl
    · have e187 := hG.val (v := .bool true) 39 187 (hd _ rfl ⟨39, .data⟩ (by simp) rfl) rfl rfl
      refine op_do rfl (wanted_none rfl) hK (fun K' hK' => ?_)
      unfold Oper.wp
      go_simp
      exact hK' _ _ (Fr.refl _ _) rfl
  · intro vs W1 f1 hv
    have r0 : vs 0 = .func (.func 67) #[] #[.pointer (some ⟨bk, 0, none⟩)] := hv 0 148 (by decide) rfl
    have r1 : vs 1 = .pointer (some ⟨bx, 3, none⟩) := hv 1 149 (by decide) rfl
    have r2 : vs 2 = .int .i64 x := hv 2 150 (by decide) rfl
    have r3 := hv 3 151 (by decide) rfl
    have r4 : vs 4 = .pointer (some ⟨c, 0, none⟩) := hv 4 152 (by decide) rfl
    have r5 : vs 5 = .pointer (some ⟨c, 0, none⟩) := hv 5 153 (by decide) rfl
    have r6 : vs 6 = .pointer (some ⟨c, 1, none⟩) := hv 6 154 (by decide) rfl
    have r7 : vs 7 = .slice up R.length uc := hv 7 155 (by decide) rfl
    have r8 : vs 8 = .pointer (some ⟨bx, 3, none⟩) := hv 8 156 (by decide) rfl
    have r9 : vs 9 = .int .i64 x := hv 9 157 (by decide) rfl
    have r10 := hv 10 158 (by decide) rfl
    have r11 : vs 11 = .bool true := hv 11 159 (by decide) rfl
    have r12 : vs 12 = .bool true := hv 12 160 (by decide) rfl
    have r13 : vs 13 = .func (.func 67) #[] #[.pointer (some ⟨bk, 0, none⟩)] := hv 13 161 (by decide) rfl
    have r14 := hv 14 162 (by decide) rfl
    have r15 : vs 15 = .pointer (some ⟨c, 0, none⟩) := hv 15 163 (by decide) rfl
    have r16 : vs 16 = .pointer (some ⟨c, 0, none⟩) := hv 16 164 (by decide) rfl
    have r17 : vs 17 = .pointer (some ⟨c, 1, none⟩) := hv 17 165 (by decide) rfl
    have r18 : vs 18 = .slice up R.length uc := hv 18 166 (by decide) rfl
    have r19 : vs 19 = .bool true := hv 19 167 (by decide) rfl
    have r20 : vs 20 = .bool true := hv 20 168 (by decide) rfl
    have r21 : vs 21 = .bool true := hv 21 169 (by decide) rfl
    have r22 : vs 22 = .pointer (some ⟨b, 0, none⟩) := hv 22 170 (by decide) rfl
    have r23 : vs 23 = .int .i64 R.length := hv 23 171 (by decide) rfl
    have r24 : vs 24 = .pointer (some ⟨c, 0, none⟩) := hv 24 172 (by decide) rfl
    have r25 : vs 25 = .pointer (some ⟨c, 0, none⟩) := hv 25 173 (by decide) rfl
    have r26 : vs 26 = .pointer (some ⟨c, 1, none⟩) := hv 26 174 (by decide) rfl
    have r27 : vs 27 = .slice up R.length uc := hv 27 175 (by decide) rfl
    have r28 : vs 28 = .int .i64 R.length := hv 28 176 (by decide) rfl
    have r29 : vs 29 = .bool true := hv 29 177 (by decide) rfl
    have r30 : vs 30 = .bool true := hv 30 178 (by decide) rfl
    have r31 : vs 31 = .bool true := hv 31 179 (by decide) rfl
    have r32 : vs 32 = .pointer (some ⟨b, 0, none⟩) := hv 32 180 (by decide) rfl
    have r33 : vs 33 = .int .i64 room := hv 33 181 (by decide) rfl
    have r34 : vs 34 = .pointer (some ⟨c, 0, none⟩) := hv 34 182 (by decide) rfl
    have r35 : vs 35 = .pointer (some ⟨c, 0, none⟩) := hv 35 183 (by decide) rfl
    have r36 : vs 36 = .pointer (some ⟨c, 0, none⟩) := hv 36 184 (by decide) rfl
    have r37 : vs 37 = .int .i64 room := hv 37 185 (by decide) rfl
    have r38 : vs 38 = .bool true := hv 38 186 (by decide) rfl
    have r39 : vs 39 = .bool true := hv 39 187 (by decide) rfl
    have r40 : vs 40 = .bool true := hv 40 6 (by decide) rfl
    simp only [lay, List.foldl_cons, List.foldl_nil, r0, r1, r2, r4, r5, r6, r7, r8, r9, r11, r12, r13, r15, r16, r17, r18, r19, r20, r21, r22, r23, r24, r25, r26, r27, r28, r29, r30, r31, r32, r33, r34, r35, r36, r37, r38, r39, r40]
    simp only [List.setIfInBounds_toArray, List.set_cons_zero, List.set_cons_succ]
    clear hv r0 r1 r2 r4 r5 r6 r7 r8 r9 r11 r12 r13 r15 r16 r17 r18 r19 r20 r21 r22 r23 r24 r25 r26 r27 r28 r29 r30 r31 r32 r33 r34 r35 r36 r37 r38 r39 r40
    generalize vs 3 = x3 at *
    generalize vs 10 = x10 at *
    generalize vs 14 = x14 at *
    go_wp2_with fail
    have f9 := (((HP.out.2.1.trans HQ.out.2.2.2.2 (by simp)).trans f1 (by simp)).mono (T := PS b c v (.slice up R.length uc)) (by simp))
    refine bodyPost_ret (v := .bool true) (by simp [results, Tryd.results21, go_sem]) rfl ⟨rfl, v, .slice up R.length uc, ⟨HQ.out.2.1.grow f1, HQ.out.2.2.1.grow f1, HP.out.1.rm⟩, fun g hg => .inl hg, f9⟩
set_option maxRecDepth 100000 in
theorem done_other (w : World) (b c : Nat) (v u : Value) (R : IPs) (room d id x : Int) (oth all : Bool) (h : PT b c v u R room w) (h0 : d ≠ 0) (h1 : d ≠ 1) (h2 : d ≠ 2) (h3 : d ≠ 3) (h4 : d ≠ 4) :
    Calls Tryd.prog 21 #[.pointer (some ⟨b, 0, none⟩), .pointer (some ⟨c, 0, none⟩), .agg #[.int .i64 d, .bool oth, .int .u32 id, .int .i64 x, .bool all]] w (DonePost w b c v u R room) := by
  have hb1 := Blk.new w #[.int .i64 d, .bool oth, .int .u32 id, .int .i64 x, .bool all] 55
  have d0 := hb1.at 0 (v := .int .i64 d) rfl
  have f01 : Fr [] w (w.alloc (.cells #[.int .i64 d, .bool oth, .int .u32 id, .int .i64 x, .bool all] 55)) := (Fr.refl [] w).alloc _
  have HH := Lib.hid (And.intro (h.grow f01) f01)
  clear h hb1 f01
  go_enter Tryd.func21, Tryd.ntmps21
  go_wp2
  all_goals refine bodyPost_ret (v := .bool true) (by simp [results, Tryd.results21, go_sem]) rfl ⟨rfl, v, u, HH.out.1, fun g hg => .inl hg, HH.out.2.mono (by simp)⟩
end Go.Proofs.YtgoolkgjcmdilaaDoor
