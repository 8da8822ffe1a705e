/-
  Tb, part 13 of 36: the texts TraA TraE.
-/
import Derived.Test.YtgoolkgjcmdilaaDoorTb8
import Derived.Test.YtgoolkgjcmdilaaDoorTb9
import Derived.Test.YtgoolkgjcmdilaaDoorTb11
import Derived.Test.YtgoolkgjcmdilaaDoorTb12
section
namespace Go.Proofs.YtgoolkgjcmdilaaDoor
open Go.RowKit
set_option linter.unusedVariables false
set_option linter.unusedSimpArgs false
attribute [local go_sem] Oper.semAt_some
/-- A book's own block. -/
def BkAt (w : World) (k bO bN bP : Nat) : Prop := Blk w k #[.pointer (some ⟨bO, 0, none⟩), .pointer (some ⟨bN, 0, none⟩), .pointer (some ⟨bP, 0, none⟩)] 138
theorem BkAt.fr {S : List Nat} {w w' : World} {k bO bN bP : Nat} (h : BkAt w k bO bN bP) (f : Fr S w w') (hs : k ∉ S) : BkAt w' k bO bN bP := f.blk h hs
theorem BkAt.grow {w w' : World} {k bO bN bP : Nat} (h : BkAt w k bO bN bP) (f : Fr [] w w') : BkAt w' k bO bN bP := h.fr f (by simp)
theorem there_yes (w : World) (k bO bN bP : Nat) (h : BkAt w k bO bN bP) : Calls Tryd.prog 108 #[.pointer (some ⟨k, 0, none⟩)] w fun e w' => e = .returned (.bool true) ∧ w = w' := by
  have c0 := Blk.at h 0 rfl
  clear h
  go_enter Tryd.func108, Tryd.ntmps108
  go_wp2
  go_ret
  exact ⟨rfl, rfl⟩
theorem lenK_any (w : World) (k bO bN bP : Nat) (v : Value) (Os : List (Int × Nat)) (rO : Int) (h : BkAt w k bO bN bP) (hO : TabO w bO v Os rO) :
    Calls Tryd.prog 97 #[.pointer (some ⟨k, 0, none⟩)] w fun e w' => e = .returned (.int .i64 Os.length) ∧ w = w' := by
  have c0 := Blk.at h 0 rfl
  have HH := Lib.hid h
  have HO := Lib.hid hO
  clear h hO
  go_enter Tryd.func97, Tryd.ntmps97
  go_wp2_with fail
  (with_reducible refine (there_yes _ k bO bN bP HH.out).mono ?_)
  rintro e w1 ⟨rfl, rfl⟩
  go_wp2_with fail
  (with_reducible refine (lenO_any _ bO v Os rO HO.out).mono ?_)
  rintro e w1 ⟨rfl, rfl⟩
  go_wp2
  go_ret
  exact ⟨rfl, rfl⟩
set_option maxRecDepth 100000 in
theorem room_any (w : World) (k bO bN bP : Nat) (v : Value) (Os : List (Int × Nat)) (rO : Int) (h : BkAt w k bO bN bP) (hO : TabO w bO v Os rO) :
    Calls Tryd.prog 134 #[.pointer (some ⟨k, 0, none⟩)] w fun e w' => e = .returned (.bool (decide ((Os.length : Int) < rO))) ∧ Fr [] w w' := by
  have HH := Lib.hid (And.intro h hO)
  clear h hO
  go_enter Tryd.func134, Tryd.ntmps134
  go_wp2_with fail
  refine region_grow (by kernel_rfl) (by kernel_rfl) [.is (.pointer (some ⟨k, 0, none⟩)), .is (.pointer (some ⟨k, 0, none⟩)), .is (.pointer (some ⟨k, 0, none⟩)), .is (.pointer (some ⟨bO, 0, none⟩)), .is (.int .i64 Os.length), .is (.pointer (some ⟨k, 0, none⟩)), .is (.pointer (some ⟨k, 0, none⟩)), .is (.pointer (some ⟨k, 0, none⟩)), .is (.pointer (some ⟨bO, 0, none⟩)), .is (.int .i64 rO), .is (.bool (decide ((Os.length : Int) < rO))), .is (.bool (decide ((Os.length : Int) < rO)))] 14 rfl (by kernel_rfl) [(0, 3), (1, 4), (2, 5), (3, 6), (4, 7), (5, 8), (6, 9), (7, 10), (8, 11), (9, 12), (10, 13), (11, 2)] (by kernel_rfl) ?_ ?_
  · intro q a1 W1 i hi hnq hd hG K hK
    have hlt : i < 12 := hi
    have hc : i = 0 ∨ i = 1 ∨ i = 2 ∨ i = 3 ∨ i = 4 ∨ i = 5 ∨ i = 6 ∨ i = 7 ∨ i = 8 ∨ i = 9 ∨ i = 10 ∨ i = 11 := by omega
    rcases hc with rfl | rfl | rfl | rfl | rfl | rfl | rfl | rfl | rfl | rfl | rfl | rfl
    · have e0 := hG.old 0 (by kernel_rfl)
      refine op_do rfl (wanted_none rfl) hK (fun K' hK' => ?_)
      unfold Oper.wp
      go_simp
      exact hK' _ _ (Fr.refl _ _) rfl
    · have e3 := hG.val (v := .pointer (some ⟨k, 0, none⟩)) 0 3 (hd _ rfl ⟨0, .data⟩ (by simp) rfl) rfl rfl
      refine op_do rfl (wanted_none rfl) hK (fun K' hK' => ?_)
      unfold Oper.wp
      go_simp
      exact hK' _ _ (Fr.refl _ _) rfl
    · have e4 := hG.val (v := .pointer (some ⟨k, 0, none⟩)) 1 4 (hd _ rfl ⟨1, .data⟩ (by simp) rfl) rfl rfl
      refine op_do rfl (wanted_none rfl) hK (fun K' hK' => ?_)
      unfold Oper.wp
      go_simp
      exact hK' _ _ (Fr.refl _ _) rfl
    · have e5 := hG.val (v := .pointer (some ⟨k, 0, none⟩)) 2 5 (hd _ rfl ⟨2, .data⟩ (by simp) rfl) rfl rfl
      have c0 := (HH.out.1.grow hG.grown).at 0 (v := .pointer (some ⟨bO, 0, none⟩)) rfl
      refine op_do rfl (wanted_none rfl) hK (fun K' hK' => ?_)
      unfold Oper.wp
      go_simp
      exact hK' _ _ (Fr.refl _ _) rfl
    · have e6 := hG.val (v := .pointer (some ⟨bO, 0, none⟩)) 3 6 (hd _ rfl ⟨3, .data⟩ (by simp) rfl) rfl rfl
      refine op_do rfl (wanted_none rfl) hK (fun K' hK' => ?_)
      unfold Oper.wp
      go_simp
      refine (lenO_any W1 bO v Os rO (HH.out.2.grow hG.grown)).mono ?_
      rintro e W2 ⟨rfl, rfl⟩
      exact hK' _ _ (Fr.refl _ _) rfl
    · have e0 := hG.old 0 (by kernel_rfl)
      refine op_do rfl (wanted_none rfl) hK (fun K' hK' => ?_)
      unfold Oper.wp
      go_simp
      exact hK' _ _ (Fr.refl _ _) rfl
    · have e8 := hG.val (v := .pointer (some ⟨k, 0, none⟩)) 5 8 (hd _ rfl ⟨5, .data⟩ (by simp) rfl) rfl rfl
      refine op_do rfl (wanted_none rfl) hK (fun K' hK' => ?_)
      unfold Oper.wp
      go_simp
      exact hK' _ _ (Fr.refl _ _) rfl
    · have e9 := hG.val (v := .pointer (some ⟨k, 0, none⟩)) 6 9 (hd _ rfl ⟨6, .data⟩ (by simp) rfl) rfl rfl
      refine op_do rfl (wanted_none rfl) hK (fun K' hK' => ?_)
      unfold Oper.wp
      go_simp
      exact hK' _ _ (Fr.refl _ _) rfl
    · have e10 := hG.val (v := .pointer (some ⟨k, 0, none⟩)) 7 10 (hd _ rfl ⟨7, .data⟩ (by simp) rfl) rfl rfl
      have c0 := (HH.out.1.grow hG.grown).at 0 (v := .pointer (some ⟨bO, 0, none⟩)) rfl
      refine op_do rfl (wanted_none rfl) hK (fun K' hK' => ?_)
      unfold Oper.wp
      go_simp
      exact hK' _ _ (Fr.refl _ _) rfl
    · have e11 := hG.val (v := .pointer (some ⟨bO, 0, none⟩)) 8 11 (hd _ rfl ⟨8, .data⟩ (by simp) rfl) rfl rfl
      refine op_do rfl (wanted_none rfl) hK (fun K' hK' => ?_)
      unfold Oper.wp
      go_simp
      refine (roomO_any W1 bO v Os rO (HH.out.2.grow hG.grown)).mono ?_
      rintro e W2 ⟨rfl, rfl⟩
      exact hK' _ _ (Fr.refl _ _) rfl
    · have e7 := hG.val (v := .int .i64 Os.length) 4 7 (hd _ rfl ⟨4, .data⟩ (by simp) rfl) rfl rfl
      have e12 := hG.val (v := .int .i64 rO) 9 12 (hd _ rfl ⟨9, .data⟩ (by simp) rfl) rfl rfl
      refine op_do rfl (wanted_none rfl) hK (fun K' hK' => ?_)
      unfold Oper.wp
      go_simp
      exact hK' _ _ (Fr.refl _ _) rfl
    · have e13 := hG.val (v := .bool (decide ((Os.length : Int) < rO))) 10 13 (hd _ rfl ⟨10, .data⟩ (by simp) rfl) rfl rfl
      refine op_do rfl (wanted_none rfl) hK (fun K' hK' => ?_)
      unfold Oper.wp
      go_simp
      exact hK' _ _ (Fr.refl _ _) rfl
  · intro vs W1 f1 hv
    have r0 : vs 0 = .pointer (some ⟨k, 0, none⟩) := hv 0 3 (by decide) rfl
    have r1 : vs 1 = .pointer (some ⟨k, 0, none⟩) := hv 1 4 (by decide) rfl
    have r2 : vs 2 = .pointer (some ⟨k, 0, none⟩) := hv 2 5 (by decide) rfl
    have r3 : vs 3 = .pointer (some ⟨bO, 0, none⟩) := hv 3 6 (by decide) rfl
    have r4 : vs 4 = .int .i64 Os.length := hv 4 7 (by decide) rfl
    have r5 : vs 5 = .pointer (some ⟨k, 0, none⟩) := hv 5 8 (by decide) rfl
    have r6 : vs 6 = .pointer (some ⟨k, 0, none⟩) := hv 6 9 (by decide) rfl
    have r7 : vs 7 = .pointer (some ⟨k, 0, none⟩) := hv 7 10 (by decide) rfl
    have r8 : vs 8 = .pointer (some ⟨bO, 0, none⟩) := hv 8 11 (by decide) rfl
    have r9 : vs 9 = .int .i64 rO := hv 9 12 (by decide) rfl
    have r10 : vs 10 = .bool (decide ((Os.length : Int) < rO)) := hv 10 13 (by decide) rfl
    have r11 : vs 11 = .bool (decide ((Os.length : Int) < rO)) := hv 11 2 (by decide) rfl
    simp only [lay, List.foldl_cons, List.foldl_nil, r0, r1, r2, r3, r4, r5, r6, r7, r8, r9, r10, r11]
    simp only [List.setIfInBounds_toArray, List.set_cons_zero, List.set_cons_succ]
    clear hv r0 r1 r2 r3 r4 r5 r6 r7 r8 r9 r10 r11
    go_wp2_with fail
    refine bodyPost_ret (v := .bool (decide ((Os.length : Int) < rO))) (by simp [results, Tryd.results134, go_sem]) rfl ⟨rfl, f1⟩
theorem TabO.low {W : World} {b : Nat} {v : Value} {Ps : List (Int × Nat)} {room : Int} (h : TabO W b v Ps room) : ∀ s, s ∈ b :: v.ownBlock.toList → s < W.heap.size := by
  obtain ⟨g, cap, rfl, _, _, hg, _⟩ := h.row
  intro s hs
  simp [Value.ownBlock] at hs
  rcases hs with rfl | rfl
  · exact h.hd.lt
  · exact hg
def ObAt (W : World) (x bB : Nat) (id num t px py : Int) (sp : Nat) : Prop :=
  Blk W x #[.pointer (some ⟨bB, 0, none⟩), .int .u32 id, .int .u32 num, .int .u32 t, .int .i32 px, .int .i32 py, .float .f64 sp, .slice none 0 0] 195
set_option maxRecDepth 100000 in
theorem put_any' (w : World) (k bO bN bP : Nat) (v u : Value) (Os : List (Int × Nat)) (Fs : List (Int × Int)) (rO : Int) (rN : Nat) (id num t px py : Int) (sp : Nat) (up : Option Addr) (un uc : Nat)
    (h : BkAt w k bO bN bP) (hO : TabO w bO v Os rO) (hN : TabN w bN u Fs rN) (hi : U32 id) (hh : hasId Os id = false) (hlen : (Os.length : Int) < rO) :
    Calls Tryd.prog 135 #[.pointer (some ⟨k, 0, none⟩), .agg #[.int .u32 id, .int .u32 num, .int .u32 t, .int .i32 px, .int .i32 py, .float .f64 sp, .slice up un uc]] w fun e w' =>
      ∃ x bB vB ws v', e = .returned (.pointer (some ⟨x, 0, none⟩)) ∧ ObAt w' x bB id num t px py sp ∧ BitsAt w' bB vB (List.replicate rN false) ws ∧ TabO w' bO v' (insAt Os id x) rO
        ∧ (v'.ownBlock = v.ownBlock ∨ ∃ g, v'.ownBlock = some g ∧ w.heap.size ≤ g) ∧ w.heap.size ≤ x ∧ w.heap.size ≤ bB ∧ (∀ g, vB.ownBlock = some g → w.heap.size ≤ g) ∧ Fr (bO :: v.ownBlock.toList) w w' := by
  have F0 : Fr [] w (w.alloc (.cells #[.int .u32 id, .int .u32 num, .int .u32 t, .int .i32 px, .int .i32 py, .float .f64 sp, .slice up un uc] 119)) := (Fr.refl _ _).alloc _
  have hlo := hO.low
  have hA := Blk.new w #[.int .u32 id, .int .u32 num, .int .u32 t, .int .i32 px, .int .i32 py, .float .f64 sp, .slice up un uc] 119
  have hK := h.grow F0
  have c1 := Blk.at hK 1 (v := .pointer (some ⟨bN, 0, none⟩)) rfl
  have HH := Lib.hid (And.intro hK (And.intro (hO.grow F0) (And.intro (hN.grow F0) (And.intro hi (And.intro hh (And.intro hlen (And.intro F0 (And.intro hA hlo))))))))
  clear h hK hO hN hi hh hlen F0 hA hlo
  go_enter Tryd.func135, Tryd.ntmps135
  go_wp2_with fail
  obtain ⟨h, hO, hN, hi, hh, hlen, F0, hA, hlo⟩ := HH.out
  clear HH c1
  obtain ⟨w1, hw1⟩ : ∃ w1, w.alloc (.cells #[.int .u32 id, .int .u32 num, .int .u32 t, .int .i32 px, .int .i32 py, .float .f64 sp, .slice up un uc] 119) = w1 := ⟨_, rfl⟩
  obtain ⟨a0, ha0⟩ : ∃ a0, a0 = w.heap.size := ⟨_, rfl⟩
  rw [← ha0] at hA ⊢
  rw [hw1] at h hO hN F0 hA ⊢
  have HQ := Lib.hid (And.intro hi (And.intro hh (And.intro hlen (And.intro F0 hlo))))
  have HH := Lib.hid (And.intro h (And.intro hO (And.intro hN hA)))
  clear h hO hN hi hh hlen F0 hA hlo hw1 ha0
  (with_reducible refine (roomN_any w1 bN u Fs rN HH.out.2.2.1).mono ?_)
  rintro e w1' ⟨rfl, rfl⟩
  go_wp2_with fail
  (with_reducible refine (newB_ok w1 rN (by have := HH.out.2.2.1.lim.2; omega)).mono ?_)
  rintro e w2 ⟨bB, vB, ws, rfl, hB, n1, n2, f2⟩
  have hA := f2.blk HH.out.2.2.2 (by simp)
  have a0c := hA.at 0 (v := .int .u32 id) rfl
  have a1c := hA.at 1 (v := .int .u32 num) rfl
  have a2c := hA.at 2 (v := .int .u32 t) rfl
  have a3c := hA.at 3 (v := .int .i32 px) rfl
  have a4c := hA.at 4 (v := .int .i32 py) rfl
  have a5c := hA.at 5 (v := .float .f64 sp) rfl
  have a6c := hA.at 6 (v := .slice up un uc) rfl
  have hX := Blk.new w2 #[.pointer (some ⟨bB, 0, none⟩), .int .u32 id, .int .u32 num, .int .u32 t, .int .i32 px, .int .i32 py, .float .f64 sp, .slice up un uc] 195
  have x7 := hX.at 7 (v := .slice up un uc) rfl
  have x7f := hX.free 7
  have HB := Lib.hid (And.intro hB (And.intro n1 (And.intro n2 (And.intro f2 (And.intro hA hX)))))
  clear hB n1 n2 f2 hA hX
  go_wp2_with fail
  obtain ⟨hB, n1, n2, f2, hA, hX⟩ := HB.out
  clear HB a0c a1c a2c a3c a4c a5c a6c x7 x7f
  have F3 : Fr [] w2 (w2.alloc (.cells #[.pointer (some ⟨bB, 0, none⟩), .int .u32 id, .int .u32 num, .int .u32 t, .int .i32 px, .int .i32 py, .float .f64 sp, .slice none 0 0] 195)) := (Fr.refl [] w2).alloc _
  have hX3 := Blk.new w2 #[.pointer (some ⟨bB, 0, none⟩), .int .u32 id, .int .u32 num, .int .u32 t, .int .i32 px, .int .i32 py, .float .f64 sp, .slice none 0 0] 195
  obtain ⟨w3, hw3⟩ : ∃ w3, w2.alloc (.cells #[.pointer (some ⟨bB, 0, none⟩), .int .u32 id, .int .u32 num, .int .u32 t, .int .i32 px, .int .i32 py, .float .f64 sp, .slice none 0 0] 195) = w3 := ⟨_, rfl⟩
  obtain ⟨x, hx⟩ : ∃ x, x = w2.heap.size := ⟨_, rfl⟩
  rw [← hx] at hX3 ⊢
  rw [hw3] at F3 hX3 ⊢
  have hX4 : ObAt w3 x bB id num t px py sp := hX3
  have f13 := f2.trans F3 (by simp)
  have hx1 : w1.heap.size ≤ x := by rw [hx]; exact f2.size
  have hP0 := HQ.out.2.2.2.1
  have HP := Lib.hid (And.intro (HH.out.1.grow (f13.mono (by simp))) (And.intro (F3.blk hA (by simp)) (And.intro (HH.out.2.1.grow (f13.mono (by simp))) (And.intro hX4 (And.intro (hB.grow F3) (And.intro (Nat.le_trans hP0.size hx1) (And.intro (Nat.le_trans hP0.size n1) (And.intro (fun g hg => Nat.le_trans hP0.size (n2 g hg)) ((hP0.trans f13 (by simp)).mono (T := []) (by simp))))))))))
  clear hB n1 n2 f2 hA hX F3 hX3 hw3 hx hX4 f13 hx1 hP0
  refine region_tail (by kernel_rfl) (by kernel_rfl) [[], [0], [0, 1], [0, 1, 2], [], [4], [], [0, 1, 2, 3, 4, 5, 6]] (by kernel_rfl) 7 (by decide) (by kernel_rfl) [.is (.pointer (some ⟨k, 0, none⟩)), .is (.pointer (some ⟨k, 0, none⟩)), .is (.pointer (some ⟨k, 0, none⟩)), .is (.pointer (some ⟨bO, 0, none⟩)), .is (.pointer (some ⟨a0, 0, none⟩)), .is (.int .u32 id), .is (.pointer (some ⟨x, 0, none⟩))] 34 rfl (by kernel_rfl) ?_ ?_
  · intro q a1 W1 i hi hnq hd hG K hK
    have hlt : i < 7 := hi
    have hc : i = 0 ∨ i = 1 ∨ i = 2 ∨ i = 3 ∨ i = 4 ∨ i = 5 ∨ i = 6 := by omega
    rcases hc with rfl | rfl | rfl | rfl | rfl | rfl | rfl
    · have e0 := hG.old 0 (by kernel_rfl)
      refine op_do rfl (wanted_none rfl) hK (fun K' hK' => ?_)
      unfold Oper.wp
      go_simp
      exact hK' _ _ (Fr.refl _ _) rfl
    · have e25 := hG.val (v := .pointer (some ⟨k, 0, none⟩)) 0 25 (hd _ rfl ⟨0, .data⟩ (by simp) rfl) rfl rfl
      refine op_do rfl (wanted_none rfl) hK (fun K' hK' => ?_)
      unfold Oper.wp
      go_simp
      exact hK' _ _ (Fr.refl _ _) rfl
    · have e26 := hG.val (v := .pointer (some ⟨k, 0, none⟩)) 1 26 (hd _ rfl ⟨1, .data⟩ (by simp) rfl) rfl rfl
      refine op_do rfl (wanted_none rfl) hK (fun K' hK' => ?_)
      unfold Oper.wp
      go_simp
      exact hK' _ _ (Fr.refl _ _) rfl
    · have e27 := hG.val (v := .pointer (some ⟨k, 0, none⟩)) 2 27 (hd _ rfl ⟨2, .data⟩ (by simp) rfl) rfl rfl
      have c0 := (hG.grown.blk HP.out.1 (by simp)).at 0 (v := .pointer (some ⟨bO, 0, none⟩)) rfl
      refine op_do rfl (wanted_none rfl) hK (fun K' hK' => ?_)
      unfold Oper.wp
      go_simp
      exact hK' _ _ (Fr.refl _ _) rfl
    · have e3 := hG.old 3 (by kernel_rfl)
      refine op_do rfl (wanted_none rfl) hK (fun K' hK' => ?_)
      unfold Oper.wp
      go_simp
      exact hK' _ _ (Fr.refl _ _) rfl
    · have e29 := hG.val (v := .pointer (some ⟨a0, 0, none⟩)) 4 29 (hd _ rfl ⟨4, .data⟩ (by simp) rfl) rfl rfl
      have c2 := (hG.grown.blk HP.out.2.1 (by simp)).at 0 (v := .int .u32 id) rfl
      refine op_do rfl (wanted_none rfl) hK (fun K' hK' => ?_)
      unfold Oper.wp
      go_simp
      exact hK' _ _ (Fr.refl _ _) rfl
    · have e7 := hG.old 7 (by kernel_rfl)
      refine op_do rfl (wanted_none rfl) hK (fun K' hK' => ?_)
      unfold Oper.wp
      go_simp
      exact hK' _ _ (Fr.refl _ _) rfl
  · intro q a1 W1 hq hG
    have f1 := hG.grown
    obtain ⟨vs, hv, rfl⟩ := hG.front 34 rfl (by kernel_rfl) (by decide) hq [(0, 25), (1, 26), (2, 27), (3, 28), (4, 29), (5, 30), (6, 31)] (by kernel_rfl)
    clear hG hq
    have r0 : vs 0 = .pointer (some ⟨k, 0, none⟩) := hv 0 25 (by decide) rfl
    have r1 : vs 1 = .pointer (some ⟨k, 0, none⟩) := hv 1 26 (by decide) rfl
    have r2 : vs 2 = .pointer (some ⟨k, 0, none⟩) := hv 2 27 (by decide) rfl
    have r3 : vs 3 = .pointer (some ⟨bO, 0, none⟩) := hv 3 28 (by decide) rfl
    have r4 : vs 4 = .pointer (some ⟨a0, 0, none⟩) := hv 4 29 (by decide) rfl
    have r5 : vs 5 = .int .u32 id := hv 5 30 (by decide) rfl
    have r6 : vs 6 = .pointer (some ⟨x, 0, none⟩) := hv 6 31 (by decide) rfl
    simp only [List.drop_succ_cons, List.drop_zero, lay, List.foldl_cons, List.foldl_nil, r0, r1, r2, r3, r4, r5, r6]
    simp only [List.setIfInBounds_toArray, List.set_cons_zero, List.set_cons_succ]
    clear hv r0 r1 r2 r3 r4 r5 r6
    clear vs
    go_wp2_with fail
    have HF := Lib.hid f1
    have HT := Lib.hid (HP.out.2.2.1.grow f1)
    clear f1
    (with_reducible refine (putO_new W1 bO v Os rO id x HT.out HQ.out.1 HQ.out.2.1 (by have := HQ.out.2.2.1; omega)).mono ?_)
    rintro e w5 ⟨rfl, v', hT, hv, f5⟩
    have HR := Lib.hid (And.intro hT (And.intro hv f5))
    clear hT hv f5
    go_wp2_with fail
    obtain ⟨-, -, -, q1, q2, q3, q4, q5, q6⟩ := HP.out
    have hlo := HQ.out.2.2.2.2
    have n1 : x ∉ bO :: v.ownBlock.toList := fun hs => Nat.lt_irrefl _ (Nat.lt_of_lt_of_le (hlo _ hs) q3)
    have n2 : bB ∉ bO :: v.ownBlock.toList := fun hs => Nat.lt_irrefl _ (Nat.lt_of_lt_of_le (hlo _ hs) q4)
    have n3 : ∀ g, vB.ownBlock = some g → g ∉ bO :: v.ownBlock.toList := fun g hg hs => Nat.lt_irrefl _ (Nat.lt_of_lt_of_le (hlo _ hs) (q5 g hg))
    have f03 := q6.trans HF.out (by simp)
    refine bodyPost_ret (v := .pointer (some ⟨x, 0, none⟩)) (by simp [results, Tryd.results135, go_sem]) rfl
      ⟨x, bB, vB, ws, v', rfl, HR.out.2.2.blk (HF.out.blk q1 (by simp)) n1, (q2.grow HF.out).fr HR.out.2.2 n2 n3, HR.out.1, ?_, q3, q4, q5, (f03.mono (T := bO :: v.ownBlock.toList) (by simp)).trans HR.out.2.2 (fun s hs => .inl hs)⟩
    rcases HR.out.2.1 with h | ⟨g, h, hge⟩
    · exact .inl h
    · exact .inr ⟨g, h, Nat.le_trans f03.size hge⟩
def NewKPost (w : World) (rO rN : Nat) (e : Ending) (w' : World) : Prop :=
  ∃ k bO bN bP vO vN vP ws, e = .returned (.tuple #[.pointer (some ⟨k, 0, none⟩), .int .i64 0]) ∧ BkAt w' k bO bN bP ∧ TabO w' bO vO [] rO ∧ TabN w' bN vN [] rN ∧ BitsAt w' bP vP (List.replicate rN false) ws ∧ w.heap.size ≤ bO ∧ (∀ g, vO.ownBlock = some g → w.heap.size ≤ g) ∧ w.heap.size ≤ bN ∧ (∀ g, vN.ownBlock = some g → w.heap.size ≤ g) ∧ w.heap.size ≤ bP ∧ (∀ g, vP.ownBlock = some g → w.heap.size ≤ g) ∧ w.heap.size ≤ k ∧ Fr [] w w'
theorem newK_ok (w : World) (rO rN : Nat) (h1 : 1 ≤ rO) (h2 : rO ≤ 64) (h3 : 1 ≤ rN) (h4 : rN ≤ 64) : Calls Tryd.prog 50 #[.int .i64 (rO : Nat), .int .i64 (rN : Nat)] w (NewKPost w rO rN) := by
  have i1 : ¬ (rO : Int) < 1 := by omega
  have i2 : ¬ 64 < (rO : Int) := by omega
  have i3 : ¬ (rN : Int) < 1 := by omega
  have i4 : ¬ 64 < (rN : Int) := by omega
  have i5 : (rO : Int) ≤ 64 := by omega
  have i6 : (rN : Int) ≤ 64 := by omega
  go_enter Tryd.func50, Tryd.ntmps50
  go_wp2_with fail
  (with_reducible refine (newO_ok _ rO (by omega) (by omega)).mono ?_)
  rintro e w1 ⟨bO, vO, rfl, hO, n1, n2, f1⟩
  have HO := Lib.hid (And.intro hO (And.intro n1 (And.intro n2 f1)))
  clear hO n1 n2 f1
  go_wp2_with fail
  (with_reducible refine (newN_ok _ rN (by omega) (by omega)).mono ?_)
  rintro e w2 ⟨bN, vN, rfl, hN, n1, n2, f2⟩
  have z1 := HO.out.2.2.2.size
  have m1 : w.heap.size ≤ bN := Nat.le_trans z1 n1
  have m2 : ∀ g, vN.ownBlock = some g → w.heap.size ≤ g := fun g hg => Nat.le_trans z1 (n2 g hg)
  have HM := Lib.hid (And.intro m1 m2)
  have HN := Lib.hid (And.intro hN f2)
  clear hN n1 n2 f2 z1 m1 m2
  go_wp2_with fail
  (with_reducible refine (newB_ok _ rN (by omega)).mono ?_)
  rintro e w3 ⟨bP, vP, ws, rfl, hB, n3, n4, f3⟩
  have z1 := Nat.le_trans HO.out.2.2.2.size HN.out.2.size
  have m1 : w.heap.size ≤ bP := Nat.le_trans z1 n3
  have m2 : ∀ g, vP.ownBlock = some g → w.heap.size ≤ g := fun g hg => Nat.le_trans z1 (n4 g hg)
  have m3 : w.heap.size ≤ w3.heap.size := Nat.le_trans z1 f3.size
  have HM2 := Lib.hid (And.intro m1 (And.intro m2 m3))
  have HB := Lib.hid (And.intro hB f3)
  clear hB n3 n4 f3 z1 m1 m2 m3
  go_wp2_with fail
  have F9 : Fr [] w3 (w3.alloc (.cells #[.pointer (some ⟨bO, 0, none⟩), .pointer (some ⟨bN, 0, none⟩), .pointer (some ⟨bP, 0, none⟩)] 138)) := (Fr.refl _ _).alloc _
  have f23 := HN.out.2.trans HB.out.2 (by simp)
  refine bodyPost_ret (v := .tuple #[.pointer (some ⟨w3.heap.size, 0, none⟩), .int .i64 0]) (by simp [results, Tryd.results50, go_sem]) rfl
    ⟨w3.heap.size, bO, bN, bP, vO, vN, vP, ws, rfl, Blk.new _ _ _, (HO.out.1.grow (f23.mono (by simp))).grow F9, (HN.out.1.grow (HB.out.2.mono (by simp))).grow F9, HB.out.1.grow F9, HO.out.2.1, HO.out.2.2.1, HM.out.1, HM.out.2, HM2.out.1, HM2.out.2.1, HM2.out.2.2, ?_⟩
  exact ((HO.out.2.2.2.trans f23 (by simp)).trans F9 (by simp)).mono (by simp)
end Go.Proofs.YtgoolkgjcmdilaaDoor
end
section
namespace Go.Proofs.YtgoolkgjcmdilaaDoor
open Go.RowKit
set_option linter.unusedVariables false
set_option linter.unusedSimpArgs false
attribute [local go_sem] Oper.semAt_some
def I32 (a : Int) : Prop := -2147483648 ≤ a ∧ a ≤ 2147483647
def dAbs (a b : Int) : Nat := (a - b).natAbs
theorem size_any (w : World) (a b : Int) (ha : I32 a) (hb : I32 b) : Calls Tryd.prog 102 #[.int .i32 a, .int .i32 b] w fun e w' => e = .returned (.int .u64 (dAbs a b)) ∧ w = w' := by
  obtain ⟨a1, a2⟩ := ha
  obtain ⟨b1, b2⟩ := hb
  go_enter Tryd.func102, Tryd.ntmps102
  go_wp2
  all_goals
    go_ret
    exact ⟨congrArg (fun z => Ending.returned (.int .u64 z)) (by unfold dAbs; omega), rfl⟩
theorem add64_9 (w : World) : (callFunc 139 #[.int .u64 9, .int .u64 16, .int .u64 0]).run Tryd.prog w = .ok (.value (.tuple #[.int .u64 25, .int .u64 0])) w := by kernel_rfl
attribute [local go_sem] add64_9
theorem fl25 : floatOfInt .f64 25 = 4627730092099895296 := by kernel_rfl
theorem sqrt25 (w : World) : (callFunc 140 #[.float .f64 4627730092099895296]).run Tryd.prog w = .ok (.value (.float .f64 4617315517961601024)) w := by kernel_rfl
attribute [local go_sem] sqrt25
theorem sq25 (w : World) : Calls Tryd.prog 100 #[.float .f64 4627730092099895296] w fun e w' => e = .returned (.float .f64 4617315517961601024) ∧ w = w' := by
  go_enter Tryd.func100, Tryd.ntmps100
  go_wp2
  go_ret
  exact ⟨rfl, rfl⟩
set_option maxRecDepth 100000 in
theorem dist34 (w : World) : Calls Tryd.prog 98 #[.agg #[.int .i32 0, .int .i32 0], .agg #[.int .i32 3, .int .i32 4]] w fun e w' => e = .returned (.float .f64 4617315517961601024) ∧ Fr [] w w' := by
  have HI := Lib.hid (show I32 0 ∧ I32 0 ∧ I32 3 ∧ I32 4 by refine ⟨?_, ?_, ?_, ?_⟩ <;> constructor <;> decide)
  have F0 : Fr [] w ((w.alloc (.cells #[.int .i32 0, .int .i32 0] 98)).alloc (.cells #[.int .i32 3, .int .i32 4] 98)) := ((Fr.refl _ _).alloc _).alloc _
  have hA := (Blk.new w #[.int .i32 0, .int .i32 0] 98).alloc (.cells #[.int .i32 3, .int .i32 4] 98)
  have hB := Blk.new (w.alloc (.cells #[.int .i32 0, .int .i32 0] 98)) #[.int .i32 3, .int .i32 4] 98
  rw [show (w.alloc (.cells #[.int .i32 0, .int .i32 0] 98)).heap.size = w.heap.size + 1 by simp] at hB
  go_enter Tryd.func98, Tryd.ntmps98
  go_wp2_with fail
  obtain ⟨w1, hw1⟩ : ∃ w1, (w.alloc (.cells #[.int .i32 0, .int .i32 0] 98)).alloc (.cells #[.int .i32 3, .int .i32 4] 98) = w1 := ⟨_, rfl⟩
  rw [hw1] at F0 hA hB ⊢
  have HF := Lib.hid F0
  clear F0 hw1
  generalize w.heap.size + 1 = c1 at hB ⊢
  obtain ⟨a0, ha0⟩ : ∃ a0, a0 = w.heap.size := ⟨_, rfl⟩
  rw [← ha0] at hA ⊢
  have HA := Lib.hid (And.intro hA hB)
  clear hA hB ha0
  refine region_grow (by kernel_rfl) (by kernel_rfl) [.is (.pointer (some ⟨a0, 0, none⟩)), .is (.int .i32 0), .is (.pointer (some ⟨c1, 0, none⟩)), .is (.int .i32 3), .is (.int .u64 (dAbs 0 3)), .is (.pointer (some ⟨a0, 1, none⟩)), .is (.int .i32 0), .is (.pointer (some ⟨c1, 1, none⟩)), .is (.int .i32 4), .is (.int .u64 (dAbs 0 4)), .is (.int .u64 (dAbs 0 3)), .is (.int .u64 (dAbs 0 4))] 44 rfl (by kernel_rfl) [(0, 10), (1, 11), (2, 12), (3, 13), (4, 14), (5, 15), (6, 16), (7, 17), (8, 18), (9, 19), (10, 5), (11, 6)] (by kernel_rfl) ?_ ?_
  · intro q a1 W1 i hi hnq hd hG K hK
    have hlt : i < 12 := hi
    have hc : i = 0 ∨ i = 1 ∨ i = 2 ∨ i = 3 ∨ i = 4 ∨ i = 5 ∨ i = 6 ∨ i = 7 ∨ i = 8 ∨ i = 9 ∨ i = 10 ∨ i = 11 := by omega
    rcases hc with rfl | rfl | rfl | rfl | rfl | rfl | rfl | rfl | rfl | rfl | rfl | rfl
    · have e2 := hG.old 2 (by kernel_rfl)
      refine op_do rfl (wanted_none rfl) hK (fun K' hK' => ?_)
      unfold Oper.wp
      go_simp
      exact hK' _ _ (Fr.refl _ _) rfl
    · have e10 := hG.val (v := .pointer (some ⟨a0, 0, none⟩)) 0 10 (hd _ rfl ⟨0, .data⟩ (by simp) rfl) rfl rfl
      have hc2 := hG.grown.blk HA.out.1 (by simp)
      have hc3 := hG.grown.blk HA.out.2 (by simp)
      have d0 := hc2.at 0 (v := .int .i32 0) rfl
      have d1 := hc2.at 1 (v := .int .i32 0) rfl
      have d2 := hc3.at 0 (v := .int .i32 3) rfl
      have d3 := hc3.at 1 (v := .int .i32 4) rfl
      clear hc2 hc3
      refine op_do rfl (wanted_none rfl) hK (fun K' hK' => ?_)
      unfold Oper.wp
      go_simp
      exact hK' _ _ (Fr.refl _ _) rfl
    · have e3 := hG.old 3 (by kernel_rfl)
      refine op_do rfl (wanted_none rfl) hK (fun K' hK' => ?_)
      unfold Oper.wp
      go_simp
      exact hK' _ _ (Fr.refl _ _) rfl
    · have e12 := hG.val (v := .pointer (some ⟨c1, 0, none⟩)) 2 12 (hd _ rfl ⟨2, .data⟩ (by simp) rfl) rfl rfl
      have hc2 := hG.grown.blk HA.out.1 (by simp)
      have hc3 := hG.grown.blk HA.out.2 (by simp)
      have d0 := hc2.at 0 (v := .int .i32 0) rfl
      have d1 := hc2.at 1 (v := .int .i32 0) rfl
      have d2 := hc3.at 0 (v := .int .i32 3) rfl
      have d3 := hc3.at 1 (v := .int .i32 4) rfl
      clear hc2 hc3
      refine op_do rfl (wanted_none rfl) hK (fun K' hK' => ?_)
      unfold Oper.wp
      go_simp
      exact hK' _ _ (Fr.refl _ _) rfl
    · have e11 := hG.val (v := .int .i32 0) 1 11 (hd _ rfl ⟨1, .data⟩ (by simp) rfl) rfl rfl
      have e13 := hG.val (v := .int .i32 3) 3 13 (hd _ rfl ⟨3, .data⟩ (by simp) rfl) rfl rfl
      refine op_do rfl (wanted_none rfl) hK (fun K' hK' => ?_)
      unfold Oper.wp
      go_simp
      refine (size_any W1 0 3 HI.out.1 HI.out.2.2.1).mono ?_
      rintro e W2 ⟨rfl, rfl⟩
      exact hK' _ _ (Fr.refl _ _) rfl
    · have e2 := hG.old 2 (by kernel_rfl)
      refine op_do rfl (wanted_none rfl) hK (fun K' hK' => ?_)
      unfold Oper.wp
      go_simp
      exact hK' _ _ (Fr.refl _ _) rfl
    · have e15 := hG.val (v := .pointer (some ⟨a0, 1, none⟩)) 5 15 (hd _ rfl ⟨5, .data⟩ (by simp) rfl) rfl rfl
      have hc2 := hG.grown.blk HA.out.1 (by simp)
      have hc3 := hG.grown.blk HA.out.2 (by simp)
      have d0 := hc2.at 0 (v := .int .i32 0) rfl
      have d1 := hc2.at 1 (v := .int .i32 0) rfl
      have d2 := hc3.at 0 (v := .int .i32 3) rfl
      have d3 := hc3.at 1 (v := .int .i32 4) rfl
      clear hc2 hc3
      refine op_do rfl (wanted_none rfl) hK (fun K' hK' => ?_)
      unfold Oper.wp
      go_simp
      exact hK' _ _ (Fr.refl _ _) rfl
    · have e3 := hG.old 3 (by kernel_rfl)
      refine op_do rfl (wanted_none rfl) hK (fun K' hK' => ?_)
      unfold Oper.wp
      go_simp
      exact hK' _ _ (Fr.refl _ _) rfl
    · have e17 := hG.val (v := .pointer (some ⟨c1, 1, none⟩)) 7 17 (hd _ rfl ⟨7, .data⟩ (by simp) rfl) rfl rfl
      have hc2 := hG.grown.blk HA.out.1 (by simp)
      have hc3 := hG.grown.blk HA.out.2 (by simp)
      have d0 := hc2.at 0 (v := .int .i32 0) rfl
      have d1 := hc2.at 1 (v := .int .i32 0) rfl
      have d2 := hc3.at 0 (v := .int .i32 3) rfl
      have d3 := hc3.at 1 (v := .int .i32 4) rfl
      clear hc2 hc3
      refine op_do rfl (wanted_none rfl) hK (fun K' hK' => ?_)
      unfold Oper.wp
      go_simp
      exact hK' _ _ (Fr.refl _ _) rfl
    · have e16 := hG.val (v := .int .i32 0) 6 16 (hd _ rfl ⟨6, .data⟩ (by simp) rfl) rfl rfl
      have e18 := hG.val (v := .int .i32 4) 8 18 (hd _ rfl ⟨8, .data⟩ (by simp) rfl) rfl rfl
      refine op_do rfl (wanted_none rfl) hK (fun K' hK' => ?_)
      unfold Oper.wp
      go_simp
      refine (size_any W1 0 4 HI.out.2.1 HI.out.2.2.2).mono ?_
      rintro e W2 ⟨rfl, rfl⟩
      exact hK' _ _ (Fr.refl _ _) rfl
    · have e14 := hG.val (v := .int .u64 (dAbs 0 3)) 4 14 (hd _ rfl ⟨4, .data⟩ (by simp) rfl) rfl rfl
      refine op_do rfl (wanted_none rfl) hK (fun K' hK' => ?_)
      unfold Oper.wp
      go_simp
      exact hK' _ _ (Fr.refl _ _) rfl
    · have e19 := hG.val (v := .int .u64 (dAbs 0 4)) 9 19 (hd _ rfl ⟨9, .data⟩ (by simp) rfl) rfl rfl
      refine op_do rfl (wanted_none rfl) hK (fun K' hK' => ?_)
      unfold Oper.wp
      go_simp
      exact hK' _ _ (Fr.refl _ _) rfl
  · intro vs W1 f1 hv
    have r0 : vs 0 = .pointer (some ⟨a0, 0, none⟩) := hv 0 10 (by decide) rfl
    have r1 : vs 1 = .int .i32 0 := hv 1 11 (by decide) rfl
    have r2 : vs 2 = .pointer (some ⟨c1, 0, none⟩) := hv 2 12 (by decide) rfl
    have r3 : vs 3 = .int .i32 3 := hv 3 13 (by decide) rfl
    have r4 : vs 4 = .int .u64 (dAbs 0 3) := hv 4 14 (by decide) rfl
    have r5 : vs 5 = .pointer (some ⟨a0, 1, none⟩) := hv 5 15 (by decide) rfl
    have r6 : vs 6 = .int .i32 0 := hv 6 16 (by decide) rfl
    have r7 : vs 7 = .pointer (some ⟨c1, 1, none⟩) := hv 7 17 (by decide) rfl
    have r8 : vs 8 = .int .i32 4 := hv 8 18 (by decide) rfl
    have r9 : vs 9 = .int .u64 (dAbs 0 4) := hv 9 19 (by decide) rfl
    have r10 : vs 10 = .int .u64 (dAbs 0 3) := hv 10 5 (by decide) rfl
    have r11 : vs 11 = .int .u64 (dAbs 0 4) := hv 11 6 (by decide) rfl
    simp only [lay, List.foldl_cons, List.foldl_nil, r0, r1, r2, r3, r4, r5, r6, r7, r8, r9, r10, r11]
    simp only [List.setIfInBounds_toArray, List.set_cons_zero, List.set_cons_succ]
    clear hv r0 r1 r2 r3 r4 r5 r6 r7 r8 r9 r10 r11
    have HW := Lib.hid f1
    clear f1
    rw [show ((dAbs 0 3 : Nat) : Int) = 3 by decide, show ((dAbs 0 4 : Nat) : Int) = 4 by decide]
    go_wp2_with fail
    rw [fl25]
    (with_reducible refine (sq25 W1).mono ?_)
    rintro e w2 ⟨rfl, rfl⟩
    go_wp2_with fail
    refine bodyPost_ret (v := .float .f64 4617315517961601024) (by simp [results, Tryd.results98, go_sem]) rfl ⟨rfl, HF.out.trans HW.out (by simp)⟩
theorem quo58 (w : World) : (binOp .quo 102 (.float .f64 4617315517961601024) (.float .f64 (floatOfInt .f64 8))).run Tryd.prog w = .ok (.float .f64 4603804719079489536) w := by kernel_rfl
theorem quo816 (w : World) : (binOp .quo 102 (.float .f64 (floatOfInt .f64 8)) (.float .f64 (floatOfInt .f64 16))).run Tryd.prog w = .ok (.float .f64 4602678819172646912) w := by kernel_rfl
theorem sub580 (w : World) : (binOp .sub 102 (.float .f64 4603804719079489536) (.float .f64 0)).run Tryd.prog w = .ok (.float .f64 4603804719079489536) w := by kernel_rfl
theorem mul5 (w : World) : (binOp .mul 102 (.float .f64 4602678819172646912) (.float .f64 4603804719079489536)).run Tryd.prog w = .ok (.float .f64 4599301119452119040) w := by kernel_rfl
theorem add05 (w : World) : (binOp .add 102 (.float .f64 0) (.float .f64 4599301119452119040)).run Tryd.prog w = .ok (.float .f64 4599301119452119040) w := by kernel_rfl
attribute [local go_sem high] quo58 quo816 sub580 mul5 add05
theorem speed_one (w : World) : Calls Tryd.prog 42 #[.float .f64 0, .agg #[.int .i32 0, .int .i32 0], .agg #[.int .i32 3, .int .i32 4], .int .u32 0, .int .u32 8] w fun e w' => e = .returned (.float .f64 4599301119452119040) ∧ Fr [] w w' := by
  have F0 : Fr [] w ((w.alloc (.cells #[.int .i32 0, .int .i32 0] 98)).alloc (.cells #[.int .i32 3, .int .i32 4] 98)) := ((Fr.refl _ _).alloc _).alloc _
  have HF := Lib.hid F0
  clear F0
  go_enter Tryd.func42, Tryd.ntmps42
  go_wp2_with fail
  (with_reducible refine (dist34 _).mono ?_)
  rintro e w2 ⟨rfl, f2⟩
  have HF2 := Lib.hid f2
  clear f2
  go_wp2_with fail
  refine bodyPost_ret (v := .float .f64 4599301119452119040) (by simp [results, Tryd.results42, go_sem]) rfl ⟨rfl, HF.out.trans HF2.out (by simp)⟩
end Go.Proofs.YtgoolkgjcmdilaaDoor
end
