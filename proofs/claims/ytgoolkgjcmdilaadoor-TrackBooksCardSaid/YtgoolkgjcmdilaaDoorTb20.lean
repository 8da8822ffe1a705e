/-
  Tb, part 20 of 36: the texts MvO.
-/
import Derived.Test.YtgoolkgjcmdilaaDoorTb12
import Derived.Test.YtgoolkgjcmdilaaDoorTb19
section
namespace Go.Proofs.YtgoolkgjcmdilaaDoor
open Go.RowKit
set_option linter.unusedVariables false
set_option linter.unusedSimpArgs false
attribute [local go_sem] Oper.semAt_some
/-- What the first of several, once it is done, has left. -/
noncomputable def stV (p : Nat → Prop) (k : Nat) (a b : Value) : Value := by classical exact if p k then a else b
theorem stV_same {p : Nat → Prop} {k i : Nat} (h : k ≠ i) (a b : Value) : stV (fun j => p j ∨ j = i) k a b = stV p k a b := by
  unfold stV
  by_cases hp : p k
  · rw [if_pos hp, if_pos (.inl hp)]
  · rw [if_neg hp, if_neg (fun q => q.elim hp h)]
theorem stV_new (p : Nat → Prop) (k : Nat) (a b : Value) : stV (fun j => p j ∨ j = k) k a b = a := by unfold stV; exact if_pos (.inr rfl)
theorem stV_no {p : Nat → Prop} {k : Nat} (h : ¬ p k) (a b : Value) : stV p k a b = b := by unfold stV; exact if_neg h
theorem stV_yes {p : Nat → Prop} {k : Nat} (h : p k) (a b : Value) : stV p k a b = a := by unfold stV; exact if_pos h
def spdS (R : Nat → Prop) : Stab := ⟨fun u _ => ∃ s, u = .float .f64 s ∧ R s, fun _ _ _ _ h => h⟩
/-- Between the three stores. -/
structure MvP (w0 : World) (x bB : Nat) (id num0 num t0 t px0 py0 px py : Int) (sp : Nat) (p : Nat → Prop) (f : Nat → Option Value) (W : World) : Prop where
  fr : Fr [x] w0 W
  ob : Blk W x #[.pointer (some ⟨bB, 0, none⟩), .int .u32 id, stV p 8 (.int .u32 num) (.int .u32 num0), stV p 11 (.int .u32 t) (.int .u32 t0), stV p 14 (.int .i32 px) (.int .i32 px0), stV p 14 (.int .i32 py) (.int .i32 py0), .float .f64 sp, .slice none 0 0] 195
theorem MvP.keep {w0 W W' : World} {x bB : Nat} {id num0 num t0 t px0 py0 px py : Int} {sp : Nat} {p : Nat → Prop} {f g : Nat → Option Value} {i : Nat} (h : MvP w0 x bB id num0 num t0 t px0 py0 px py sp p f W) (hf : Fr [] W W') (h1 : 8 ≠ i) (h2 : 11 ≠ i) (h3 : 14 ≠ i) : MvP w0 x bB id num0 num t0 t px0 py0 px py sp (fun k => p k ∨ k = i) g W' :=
  ⟨h.fr.trans hf (by simp), by rw [stV_same h1, stV_same h2, stV_same h3, stV_same h3]; exact hf.blk h.ob (by simp)⟩
set_option maxRecDepth 100000 in
set_option maxHeartbeats 2000000 in
theorem move_old (w : World) (k bO bN bP : Nat) (v u : Value) (Os : List (Int × Nat)) (Fs : List (Int × Int)) (rO : Int) (rN : Nat) (id num0 num t0 t px py qx qy : Int) (sp x bB : Nat)
    (h : BkAt w k bO bN bP) (hO : TabO w bO v Os rO) (hN : TabN w bN u Fs rN) (hi : U32 id) (hx : Os[rank Os id]? = some (id, x)) (hX : ObAt w x bB id num0 t0 px py sp) (b1 : I32 px) (b2 : I32 py) (b3 : 0 ≤ t0) (b4 : I32 qx) (b5 : I32 qy) (b6 : t ≤ 4294967295) :
    Calls Tryd.prog 93 #[.pointer (some ⟨k, 0, none⟩), .int .u32 id, .int .u32 num, .int .u32 t, .agg #[.int .i32 qx, .int .i32 qy]] w fun e w' => ∃ s, e = .returned (.tuple #[.agg #[.int .i32 px, .int .i32 py], .bool true, .int .i64 0]) ∧ SpR px py qx qy t0 t sp s ∧ ObAt w' x bB id num t qx qy s ∧ Fr [x] w w' := by
  have F0 : Fr [] w ((w.alloc (.cells #[.int .i32 qx, .int .i32 qy] 98)).alloc (.cells #[.int .i32 0, .int .i32 0] 98)) := ((Fr.refl _ _).alloc _).alloc _
  have hA := (Blk.new w #[.int .i32 qx, .int .i32 qy] 98).alloc (.cells #[.int .i32 0, .int .i32 0] 98)
  have hR := Blk.new (w.alloc (.cells #[.int .i32 qx, .int .i32 qy] 98)) #[.int .i32 0, .int .i32 0] 98
  rw [show (w.alloc (.cells #[.int .i32 qx, .int .i32 qy] 98)).heap.size = w.heap.size + 1 by simp] at hR
  have c0 := Blk.at (h.grow F0) 0 (v := .pointer (some ⟨bO, 0, none⟩)) rfl
  have hxl : x < w.heap.size := Blk.lt hX
  have HS := Lib.hid (fun w => speed_any w sp px py qx qy t0 t b1 b2 b4 b5 b3 b6)
  have HQ := Lib.hid (And.intro F0 (And.intro (F0.blk hX (by simp)) (And.intro hA (And.intro hR hxl))))
  have HT := Lib.hid (And.intro (h.grow F0) (getO_yes _ bO v Os rO id x (hO.grow F0) hi hx))
  have HSZ0 := Lib.hid (Nat.le_refl w.heap.size)
  clear h hO hN hi hx hX F0 hA hR hxl b1 b2 b3 b4 b5 b6
  go_enter Tryd.func93, Tryd.ntmps93
  go_wp2_with fail
  (with_reducible refine (there_yes _ k bO bN bP HT.out.1).mono ?_)
  rintro e w1 ⟨rfl, rfl⟩
  go_wp2_with fail
  (with_reducible refine (HT.out.2).mono ?_)
  rintro e w2 ⟨rfl, f2⟩
  have hx2 := f2.blk HQ.out.2.1 (by simp)
  have z4 := hx2.at 4 (v := .int .i32 px) rfl
  have z5 := hx2.at 5 (v := .int .i32 py) rfl
  have HF := Lib.hid f2
  clear f2 hx2 c0 HT
  go_wp2_with fail
  clear z4 z5
  obtain ⟨F0, hX, hA, hR, hxl⟩ := HQ.out
  have f2 := HF.out
  have fa : Fr [] w2 (w2.alloc (.cells #[.int .i32 px, .int .i32 py] 98)) := (Fr.refl _ _).alloc _
  have hp1 := Blk.new w2 #[.int .i32 px, .int .i32 py] 98
  have hb1 : Blk _ x _ _ := fa.blk (f2.blk hX (by simp)) (by simp)
  have hq1 := fa.blk (f2.blk hA (by simp)) (by simp)
  have hr1 := fa.blk (f2.blk hR (by simp)) (by simp)
  have FR := (F0.trans f2 (by simp)).trans fa (by simp)
  have hs2 : w.heap.size + 1 < w2.heap.size := (f2.blk hR (by simp)).lt
  obtain ⟨wb, hwb⟩ : ∃ wb, wb = w2.alloc (.cells #[.int .i32 px, .int .i32 py] 98) := ⟨_, rfl⟩
  obtain ⟨a2, ha2⟩ : ∃ a2, a2 = w2.heap.size := ⟨_, rfl⟩
  obtain ⟨a1, ha1⟩ : ∃ a1, a1 = w.heap.size + 1 := ⟨_, rfl⟩
  obtain ⟨a0, ha0⟩ : ∃ a0, a0 = w.heap.size := ⟨_, rfl⟩
  have HN := Lib.hid (show x ≠ a0 ∧ x ≠ a1 ∧ x ≠ a2 from ⟨by omega, by omega, by omega⟩)
  have HSZ := Lib.hid (show w.heap.size ≤ a1 by omega)
  rw [← hwb] at hp1 hb1 hq1 hr1 FR ⊢
  rw [← ha2] at hp1 ⊢
  rw [← ha1] at hr1 ⊢
  rw [← ha0] at hq1 ⊢
  have HFR := Lib.hid FR
  clear F0 hX hA hR hxl f2 fa FR hs2 hwb ha2 ha1 ha0 HQ HF HSZ0
  refine region_tail (by kernel_rfl) (by kernel_rfl) [[], [], [1], [1, 2], [1, 2, 3], [], [], [], [7], [7, 8], [7, 8, 9], [], [1, 2, 3, 4, 5, 6, 7, 8, 9, 10, 11], [0, 1, 2, 3, 4, 5, 6, 7, 8, 9, 10, 11, 12], [0, 1, 2, 3, 4, 5, 6, 7, 8, 9, 10, 11, 12, 13], [0, 1, 2, 3, 4, 5, 6, 7, 8, 9, 10, 11, 12, 13, 14]] (by kernel_rfl) 15 (by decide) (by kernel_rfl) [.is (.pointer (some ⟨x, 1, none⟩)), .is (.pointer (some ⟨x, 1, none⟩)), .is (.pointer (some ⟨x, 1, none⟩)), .is (.pointer (some ⟨x, 6, none⟩)), .is (.float .f64 sp), .is (.agg #[.int .i32 px, .int .i32 py]), .is (.agg #[.int .i32 qx, .int .i32 qy]), .is (.pointer (some ⟨x, 1, none⟩)), .is (.pointer (some ⟨x, 1, none⟩)), .is (.pointer (some ⟨x, 3, none⟩)), .is (.int .u32 t0), .is (.int .u32 t), spdS (SpR px py qx qy t0 t sp), .is (.pointer (some ⟨x, 1, none⟩)), .is (.pointer (some ⟨x, 6, none⟩))] 79 rfl (by kernel_rfl) ?_ ?_
  · intro q a1 W1 i hi hnq hd hG K hK
    have hlt : i < 15 := hi
    have hc : i = 0 ∨ i = 1 ∨ i = 2 ∨ i = 3 ∨ i = 4 ∨ i = 5 ∨ i = 6 ∨ i = 7 ∨ i = 8 ∨ i = 9 ∨ i = 10 ∨ i = 11 ∨ i = 12 ∨ i = 13 ∨ i = 14 := by omega
    rcases hc with rfl | rfl | rfl | rfl | rfl | rfl | rfl | rfl | rfl | rfl | rfl | rfl | rfl | rfl | rfl
    · have e15 := hG.old 15 (by kernel_rfl)
      refine op_do rfl (wanted_none rfl) hK (fun K' hK' => ?_)
      unfold Oper.wp
      go_simp
      exact hK' _ _ (Fr.refl _ _) rfl
    · have e15 := hG.old 15 (by kernel_rfl)
      refine op_do rfl (wanted_none rfl) hK (fun K' hK' => ?_)
      unfold Oper.wp
      go_simp
      exact hK' _ _ (Fr.refl _ _) rfl
    · have e52 := hG.val (v := .pointer (some ⟨x, 1, none⟩)) 1 52 (hd _ rfl ⟨1, .data⟩ (by simp) rfl) rfl rfl
      refine op_do rfl (wanted_none rfl) hK (fun K' hK' => ?_)
      unfold Oper.wp
      go_simp
      exact hK' _ _ (Fr.refl _ _) rfl
    · have e53 := hG.val (v := .pointer (some ⟨x, 1, none⟩)) 2 53 (hd _ rfl ⟨2, .data⟩ (by simp) rfl) rfl rfl
      refine op_do rfl (wanted_none rfl) hK (fun K' hK' => ?_)
      unfold Oper.wp
      go_simp
      exact hK' _ _ (Fr.refl _ _) rfl
    · have e54 := hG.val (v := .pointer (some ⟨x, 6, none⟩)) 3 54 (hd _ rfl ⟨3, .data⟩ (by simp) rfl) rfl rfl
      have c6 := (hG.grown.cell (a := ⟨x, 6, none⟩) hb1.lt (by simp)).trans (hb1.at 6 rfl)
      refine op_do rfl (wanted_none rfl) hK (fun K' hK' => ?_)
      unfold Oper.wp
      go_simp
      exact hK' _ _ (Fr.refl _ _) rfl
    · have e16 := hG.old 16 (by kernel_rfl)
      have c0 := (hG.grown.cell (a := ⟨a2, 0, none⟩) hp1.lt (by simp)).trans (hp1.at 0 rfl)
      have c1 := (hG.grown.cell (a := ⟨a2, 1, none⟩) hp1.lt (by simp)).trans (hp1.at 1 rfl)
      refine op_do rfl (wanted_none rfl) hK (fun K' hK' => ?_)
      unfold Oper.wp
      go_simp
      exact hK' _ _ (Fr.refl _ _) rfl
    · have e9 := hG.old 9 (by kernel_rfl)
      have c0 := (hG.grown.cell (a := ⟨a0, 0, none⟩) hq1.lt (by simp)).trans (hq1.at 0 rfl)
      have c1 := (hG.grown.cell (a := ⟨a0, 1, none⟩) hq1.lt (by simp)).trans (hq1.at 1 rfl)
      refine op_do rfl (wanted_none rfl) hK (fun K' hK' => ?_)
      unfold Oper.wp
      go_simp
      exact hK' _ _ (Fr.refl _ _) rfl
    · have e15 := hG.old 15 (by kernel_rfl)
      refine op_do rfl (wanted_none rfl) hK (fun K' hK' => ?_)
      unfold Oper.wp
      go_simp
      exact hK' _ _ (Fr.refl _ _) rfl
    · have e58 := hG.val (v := .pointer (some ⟨x, 1, none⟩)) 7 58 (hd _ rfl ⟨7, .data⟩ (by simp) rfl) rfl rfl
      refine op_do rfl (wanted_none rfl) hK (fun K' hK' => ?_)
      unfold Oper.wp
      go_simp
      exact hK' _ _ (Fr.refl _ _) rfl
    · have e59 := hG.val (v := .pointer (some ⟨x, 1, none⟩)) 8 59 (hd _ rfl ⟨8, .data⟩ (by simp) rfl) rfl rfl
      refine op_do rfl (wanted_none rfl) hK (fun K' hK' => ?_)
      unfold Oper.wp
      go_simp
      exact hK' _ _ (Fr.refl _ _) rfl
    · have e60 := hG.val (v := .pointer (some ⟨x, 3, none⟩)) 9 60 (hd _ rfl ⟨9, .data⟩ (by simp) rfl) rfl rfl
      have c3 := (hG.grown.cell (a := ⟨x, 3, none⟩) hb1.lt (by simp)).trans (hb1.at 3 rfl)
      refine op_do rfl (wanted_none rfl) hK (fun K' hK' => ?_)
      unfold Oper.wp
      go_simp
      exact hK' _ _ (Fr.refl _ _) rfl
    · have e3 := hG.old 3 (by kernel_rfl)
      refine op_do rfl (wanted_none rfl) hK (fun K' hK' => ?_)
      unfold Oper.wp
      go_simp
      exact hK' _ _ (Fr.refl _ _) rfl
    · have e55 := hG.val (v := .float .f64 sp) 4 55 (hd _ rfl ⟨4, .data⟩ (by simp) rfl) rfl rfl
      have e56 := hG.val (v := .agg #[.int .i32 px, .int .i32 py]) 5 56 (hd _ rfl ⟨5, .data⟩ (by simp) rfl) rfl rfl
      have e57 := hG.val (v := .agg #[.int .i32 qx, .int .i32 qy]) 6 57 (hd _ rfl ⟨6, .data⟩ (by simp) rfl) rfl rfl
      have e61 := hG.val (v := .int .u32 t0) 10 61 (hd _ rfl ⟨10, .data⟩ (by simp) rfl) rfl rfl
      have e62 := hG.val (v := .int .u32 t) 11 62 (hd _ rfl ⟨11, .data⟩ (by simp) rfl) rfl rfl
      refine op_do rfl (wanted_none rfl) hK (fun K' hK' => ?_)
      unfold Oper.wp
      go_simp
      refine (HS.out W1).mono ?_
      rintro e W2 ⟨s, rfl, hs, f⟩
      exact hK' _ _ f ⟨s, rfl, hs⟩
    · have e51 := hG.val (v := .pointer (some ⟨x, 1, none⟩)) 0 51 (hd _ rfl ⟨0, .data⟩ (by simp) rfl) rfl rfl
      refine op_do rfl (wanted_none rfl) hK (fun K' hK' => ?_)
      unfold Oper.wp
      go_simp
      exact hK' _ _ (Fr.refl _ _) rfl
    · have e64 := hG.val (v := .pointer (some ⟨x, 1, none⟩)) 13 64 (hd _ rfl ⟨13, .data⟩ (by simp) rfl) rfl rfl
      refine op_do rfl (wanted_none rfl) hK (fun K' hK' => ?_)
      unfold Oper.wp
      go_simp
      exact hK' _ _ (Fr.refl _ _) rfl
  · intro q a1 W1 hq hG
    have f1 := hG.grown
    obtain ⟨vs, hv, rfl⟩ := hG.front 79 rfl (by kernel_rfl) (by decide) hq [(0, 51), (1, 52), (2, 53), (3, 54), (4, 55), (5, 56), (6, 57), (7, 58), (8, 59), (9, 60), (10, 61), (11, 62), (12, 63), (13, 64), (14, 65)] (by kernel_rfl)
    clear hG hq
    have r0 : vs 0 = .pointer (some ⟨x, 1, none⟩) := hv 0 51 (by decide) rfl
    have r1 : vs 1 = .pointer (some ⟨x, 1, none⟩) := hv 1 52 (by decide) rfl
    have r2 : vs 2 = .pointer (some ⟨x, 1, none⟩) := hv 2 53 (by decide) rfl
    have r3 : vs 3 = .pointer (some ⟨x, 6, none⟩) := hv 3 54 (by decide) rfl
    have r4 : vs 4 = .float .f64 sp := hv 4 55 (by decide) rfl
    have r5 : vs 5 = .agg #[.int .i32 px, .int .i32 py] := hv 5 56 (by decide) rfl
    have r6 : vs 6 = .agg #[.int .i32 qx, .int .i32 qy] := hv 6 57 (by decide) rfl
    have r7 : vs 7 = .pointer (some ⟨x, 1, none⟩) := hv 7 58 (by decide) rfl
    have r8 : vs 8 = .pointer (some ⟨x, 1, none⟩) := hv 8 59 (by decide) rfl
    have r9 : vs 9 = .pointer (some ⟨x, 3, none⟩) := hv 9 60 (by decide) rfl
    have r10 : vs 10 = .int .u32 t0 := hv 10 61 (by decide) rfl
    have r11 : vs 11 = .int .u32 t := hv 11 62 (by decide) rfl
    have r12 := hv 12 63 (by decide) rfl
    have r13 : vs 13 = .pointer (some ⟨x, 1, none⟩) := hv 13 64 (by decide) rfl
    have r14 : vs 14 = .pointer (some ⟨x, 6, none⟩) := hv 14 65 (by decide) rfl
    simp only [List.drop_succ_cons, List.drop_zero, lay, List.foldl_cons, List.foldl_nil, r0, r1, r2, r3, r4, r5, r6, r7, r8, r9, r10, r11, r13, r14]
    simp only [List.setIfInBounds_toArray, List.set_cons_zero, List.set_cons_succ]
    clear hv r0 r1 r2 r3 r4 r5 r6 r7 r8 r9 r10 r11 r13 r14
    generalize vs 12 = x12 at *
    clear vs
    obtain ⟨s, hx12, hs⟩ := r12
    obtain rfl : x12 = .float .f64 s := hx12
    have hb2 := f1.blk hb1 (by simp)
    have hp2 := f1.blk hp1 (by simp)
    have hq2 := f1.blk hq1 (by simp)
    have hr2 := f1.blk hr1 (by simp)
    have y6 := hb2.free 6
    have y7 := hb2.at 6 rfl
    go_wp2_with fail
    have hb3 : Blk (W1.setCell ⟨x, 6, none⟩ (.float .f64 s)) x #[.pointer (some ⟨bB, 0, none⟩), .int .u32 id, .int .u32 num0, .int .u32 t0, .int .i32 px, .int .i32 py, .float .f64 s, .slice none 0 0] 195 := by simpa using hb2.set 6 (.float .f64 s)
    have f3 : Fr [x] W1 (W1.setCell ⟨x, 6, none⟩ (.float .f64 s)) := (Fr.refl _ _).setCell _ _ (.inl (by simp))
    obtain ⟨w3, hw3⟩ : ∃ w3, w3 = W1.setCell ⟨x, 6, none⟩ (.float .f64 s) := ⟨_, rfl⟩
    rw [← hw3] at hb3 f3 ⊢
    obtain ⟨hn0, hn1, hn2⟩ := HN.out
    have hp3 := f3.blk hp2 (by simp; exact fun e => hn2 e.symm)
    have hq3 := f3.blk hq2 (by simp; exact fun e => hn0 e.symm)
    have hr3 := f3.blk hr2 (by simp; exact fun e => hn1 e.symm)
    have HG := Lib.hid (And.intro (HFR.out.trans f1 (by simp)) (And.intro f3 (And.intro hp3 (And.intro hr3 (And.intro hs (And.intro hn1 hn2))))))
    clear y6 y7 hb1 hp1 hq1 hr1 hb2 hp2 hq2 hr2 f1 f3 hw3 hs hp3 hr3 hn0 hn1 hn2 HFR HS
    go_wp2_with fail
    refine region_chg (by kernel_rfl) (by kernel_rfl) [some (.pointer (some ⟨x, 1, none⟩)), some (.pointer (some ⟨x, 1, none⟩)), some (.pointer (some ⟨x, 1, none⟩)), some (.int .u32 num), some (.int .u32 t), some (.agg #[.int .i32 qx, .int .i32 qy]), some (.pointer (some ⟨x, 1, none⟩)), some (.pointer (some ⟨x, 2, none⟩)), none, some (.pointer (some ⟨x, 1, none⟩)), some (.pointer (some ⟨x, 3, none⟩)), none, some (.pointer (some ⟨x, 1, none⟩)), some (.pointer (some ⟨x, 4, none⟩)), none] (MvP w3 x bB id num0 num t0 t px py qx qy s) 79 rfl (by kernel_rfl) [(0, 66), (1, 67), (2, 68), (3, 69), (4, 70), (5, 71), (6, 72), (7, 73), (9, 74), (10, 75), (12, 76), (13, 77)] (by kernel_rfl) (⟨(Fr.refl _ _).drew, by rw [stV_no (fun h => h), stV_no (fun h => h), stV_no (fun h => h), stV_no (fun h => h)]; exact hb3.drew⟩) ?_ ?_
    · intro q a1 W1 i hi hnq hd hG K hK
      have hlt : i < 15 := hi
      have hc : i = 0 ∨ i = 1 ∨ i = 2 ∨ i = 3 ∨ i = 4 ∨ i = 5 ∨ i = 6 ∨ i = 7 ∨ i = 8 ∨ i = 9 ∨ i = 10 ∨ i = 11 ∨ i = 12 ∨ i = 13 ∨ i = 14 := by omega
      have hΨ := hG.world
      rcases hc with rfl | rfl | rfl | rfl | rfl | rfl | rfl | rfl | rfl | rfl | rfl | rfl | rfl | rfl | rfl
      · have e15 := hG.old 15 (by kernel_rfl)
        refine op_doC rfl (wanted_none rfl) hK (fun K' hK' => ?_)
        unfold Oper.wp
        go_simp
        exact hK' _ _ (fun u hu => by cases hu; rfl) (hΨ.keep (Fr.refl _ _) (by decide) (by decide) (by decide))
      · have e15 := hG.old 15 (by kernel_rfl)
        refine op_doC rfl (wanted_none rfl) hK (fun K' hK' => ?_)
        unfold Oper.wp
        go_simp
        exact hK' _ _ (fun u hu => by cases hu; rfl) (hΨ.keep (Fr.refl _ _) (by decide) (by decide) (by decide))
      · have e15 := hG.old 15 (by kernel_rfl)
        refine op_doC rfl (wanted_none rfl) hK (fun K' hK' => ?_)
        unfold Oper.wp
        go_simp
        exact hK' _ _ (fun u hu => by cases hu; rfl) (hΨ.keep (Fr.refl _ _) (by decide) (by decide) (by decide))
      · have e2 := hG.old 2 (by kernel_rfl)
        refine op_doC rfl (wanted_none rfl) hK (fun K' hK' => ?_)
        unfold Oper.wp
        go_simp
        exact hK' _ _ (fun u hu => by cases hu; rfl) (hΨ.keep (Fr.refl _ _) (by decide) (by decide) (by decide))
      · have e3 := hG.old 3 (by kernel_rfl)
        refine op_doC rfl (wanted_none rfl) hK (fun K' hK' => ?_)
        unfold Oper.wp
        go_simp
        exact hK' _ _ (fun u hu => by cases hu; rfl) (hΨ.keep (Fr.refl _ _) (by decide) (by decide) (by decide))
      · have e9 := hG.old 9 (by kernel_rfl)
        have k9 := (hΨ.fr.cell (a := ⟨a0, 0, none⟩) hq3.lt (by simp; exact fun e => HN.out.1 e.symm)).trans (hq3.at 0 rfl)
        have k8 := (hΨ.fr.cell (a := ⟨a0, 1, none⟩) hq3.lt (by simp; exact fun e => HN.out.1 e.symm)).trans (hq3.at 1 rfl)
        refine op_doC rfl (wanted_none rfl) hK (fun K' hK' => ?_)
        unfold Oper.wp
        go_simp
        exact hK' _ _ (fun u hu => by cases hu; rfl) (hΨ.keep (Fr.refl _ _) (by decide) (by decide) (by decide))
      · have e66 := hG.val (v := .pointer (some ⟨x, 1, none⟩)) 0 66 (hd _ rfl ⟨0, .data⟩ (by simp) rfl) rfl rfl
        refine op_doC rfl (wanted_none rfl) hK (fun K' hK' => ?_)
        unfold Oper.wp
        go_simp
        exact hK' _ _ (fun u hu => by cases hu; rfl) (hΨ.keep (Fr.refl _ _) (by decide) (by decide) (by decide))
      · have e72 := hG.val (v := .pointer (some ⟨x, 1, none⟩)) 6 72 (hd _ rfl ⟨6, .data⟩ (by simp) rfl) rfl rfl
        refine op_doC rfl (wanted_none rfl) hK (fun K' hK' => ?_)
        unfold Oper.wp
        go_simp
        exact hK' _ _ (fun u hu => by cases hu; rfl) (hΨ.keep (Fr.refl _ _) (by decide) (by decide) (by decide))
      · have e73 := hG.val (v := .pointer (some ⟨x, 2, none⟩)) 7 73 (hd _ rfl ⟨7, .data⟩ (by simp) rfl) rfl rfl
        have e69 := hG.val (v := .int .u32 num) 3 69 (hd _ rfl ⟨3, .data⟩ (by simp) rfl) rfl rfl
        have z2 := hΨ.ob.free 2
        have k2 := hΨ.ob.at 2 rfl
        refine op_doC rfl (wanted_none rfl) hK (fun K' hK' => ?_)
        unfold Oper.wp
        go_simp
        exact hK' undef _ (fun u hu => by cases hu) ⟨(hΨ.fr.setCell ⟨x, 2, none⟩ (.int .u32 num) (.inl (by simp))), by
          rw [stV_new, stV_same (by decide), stV_same (by decide), stV_same (by decide)]
          simpa using hΨ.ob.set 2 (.int .u32 num)⟩
      · have e67 := hG.val (v := .pointer (some ⟨x, 1, none⟩)) 1 67 (hd _ rfl ⟨1, .data⟩ (by simp) rfl) rfl rfl
        refine op_doC rfl (wanted_none rfl) hK (fun K' hK' => ?_)
        unfold Oper.wp
        go_simp
        exact hK' _ _ (fun u hu => by cases hu; rfl) (hΨ.keep (Fr.refl _ _) (by decide) (by decide) (by decide))
      · have e74 := hG.val (v := .pointer (some ⟨x, 1, none⟩)) 9 74 (hd _ rfl ⟨9, .data⟩ (by simp) rfl) rfl rfl
        refine op_doC rfl (wanted_none rfl) hK (fun K' hK' => ?_)
        unfold Oper.wp
        go_simp
        exact hK' _ _ (fun u hu => by cases hu; rfl) (hΨ.keep (Fr.refl _ _) (by decide) (by decide) (by decide))
      · have e75 := hG.val (v := .pointer (some ⟨x, 3, none⟩)) 10 75 (hd _ rfl ⟨10, .data⟩ (by simp) rfl) rfl rfl
        have e70 := hG.val (v := .int .u32 t) 4 70 (hd _ rfl ⟨4, .data⟩ (by simp) rfl) rfl rfl
        have z3 := hΨ.ob.free 3
        have k3 := hΨ.ob.at 3 rfl
        refine op_doC rfl (wanted_none rfl) hK (fun K' hK' => ?_)
        unfold Oper.wp
        go_simp
        exact hK' undef _ (fun u hu => by cases hu) ⟨(hΨ.fr.setCell ⟨x, 3, none⟩ (.int .u32 t) (.inl (by simp))), by
          rw [stV_same (by decide), stV_new, stV_same (by decide), stV_same (by decide)]
          simpa using hΨ.ob.set 3 (.int .u32 t)⟩
      · have e68 := hG.val (v := .pointer (some ⟨x, 1, none⟩)) 2 68 (hd _ rfl ⟨2, .data⟩ (by simp) rfl) rfl rfl
        refine op_doC rfl (wanted_none rfl) hK (fun K' hK' => ?_)
        unfold Oper.wp
        go_simp
        exact hK' _ _ (fun u hu => by cases hu; rfl) (hΨ.keep (Fr.refl _ _) (by decide) (by decide) (by decide))
      · have e76 := hG.val (v := .pointer (some ⟨x, 1, none⟩)) 12 76 (hd _ rfl ⟨12, .data⟩ (by simp) rfl) rfl rfl
        refine op_doC rfl (wanted_none rfl) hK (fun K' hK' => ?_)
        unfold Oper.wp
        go_simp
        exact hK' _ _ (fun u hu => by cases hu; rfl) (hΨ.keep (Fr.refl _ _) (by decide) (by decide) (by decide))
      · have e77 := hG.val (v := .pointer (some ⟨x, 4, none⟩)) 13 77 (hd _ rfl ⟨13, .data⟩ (by simp) rfl) rfl rfl
        have e71 := hG.val (v := .agg #[.int .i32 qx, .int .i32 qy]) 5 71 (hd _ rfl ⟨5, .data⟩ (by simp) rfl) rfl rfl
        have z4 := hΨ.ob.free 4
        have z5 := hΨ.ob.free 5
        have k4 := hΨ.ob.at 4 rfl
        have k5 := hΨ.ob.at 5 rfl
        refine op_doC rfl (wanted_none rfl) hK (fun K' hK' => ?_)
        unfold Oper.wp
        go_simp
        exact hK' undef _ (fun u hu => by cases hu) ⟨((hΨ.fr.setCell ⟨x, 4, none⟩ (.int .i32 qx) (.inl (by simp))).setCell ⟨x, 5, none⟩ (.int .i32 qy) (.inl (by simp))), by
          rw [stV_same (by decide), stV_same (by decide), stV_new, stV_new]
          simpa using (hΨ.ob.set 4 (.int .i32 qx)).set 5 (.int .i32 qy)⟩
    · intro vs q W1 hq hΨ hv
      have r0 : vs 0 = .pointer (some ⟨x, 1, none⟩) := hv 0 66 _ (by decide) rfl rfl
      have r1 : vs 1 = .pointer (some ⟨x, 1, none⟩) := hv 1 67 _ (by decide) rfl rfl
      have r2 : vs 2 = .pointer (some ⟨x, 1, none⟩) := hv 2 68 _ (by decide) rfl rfl
      have r3 : vs 3 = .int .u32 num := hv 3 69 _ (by decide) rfl rfl
      have r4 : vs 4 = .int .u32 t := hv 4 70 _ (by decide) rfl rfl
      have r5 : vs 5 = .agg #[.int .i32 qx, .int .i32 qy] := hv 5 71 _ (by decide) rfl rfl
      have r6 : vs 6 = .pointer (some ⟨x, 1, none⟩) := hv 6 72 _ (by decide) rfl rfl
      have r7 : vs 7 = .pointer (some ⟨x, 2, none⟩) := hv 7 73 _ (by decide) rfl rfl
      have r9 : vs 9 = .pointer (some ⟨x, 1, none⟩) := hv 9 74 _ (by decide) rfl rfl
      have r10 : vs 10 = .pointer (some ⟨x, 3, none⟩) := hv 10 75 _ (by decide) rfl rfl
      have r12 : vs 12 = .pointer (some ⟨x, 1, none⟩) := hv 12 76 _ (by decide) rfl rfl
      have r13 : vs 13 = .pointer (some ⟨x, 4, none⟩) := hv 13 77 _ (by decide) rfl rfl
      simp only [lay, List.foldl_cons, List.foldl_nil, r0, r1, r2, r3, r4, r5, r6, r7, r9, r10, r12, r13] at hΨ ⊢
      simp only [List.setIfInBounds_toArray, List.set_cons_zero, List.set_cons_succ] at hΨ ⊢
      clear hv r0 r1 r2 r3 r4 r5 r6 r7 r9 r10 r12 r13
      obtain ⟨f4, hb4⟩ := hΨ
      rw [stV_yes (hq 8 (by decide)), stV_yes (hq 11 (by decide)), stV_yes (hq 14 (by decide)), stV_yes (hq 14 (by decide))] at hb4
      obtain ⟨fa, f3, hp3, hr3, hs, hn1, hn2⟩ := HG.out
      have hp4 := f4.blk hp3 (by simp; exact fun e => hn2 e.symm)
      have hr4 := f4.blk hr3 (by simp; exact fun e => hn1 e.symm)
      have u0 := hp4.at 0 (v := .int .i32 px) rfl
      have u1 := hp4.at 1 (v := .int .i32 py) rfl
      have u2 := hr4.free 0
      have u4 := hr4.at 0 rfl
      have u5 := hr4.at 1 rfl
      have u3 := hr4.free 1
      have HZ := Lib.hid (And.intro fa (And.intro f3 (And.intro f4 (And.intro hb4 (And.intro hr4 (And.intro hs hn1))))))
      clear fa f3 f4 hb4 hr4 hs hn1 hn2 hp3 hr3 hp4 HG hq
      go_wp2_with fail
      obtain ⟨fa, f3, f4, hb4, hr4, hs, hn1⟩ := HZ.out
      have hR5 : Blk ((W1.setCell ⟨a1, 0, none⟩ (.int .i32 px)).setCell ⟨a1, 1, none⟩ (.int .i32 py)) a1 #[.int .i32 px, .int .i32 py] 98 := by simpa using (hr4.set 0 (.int .i32 px)).set 1 (.int .i32 py)
      have F5 : Fr [a1] W1 ((W1.setCell ⟨a1, 0, none⟩ (.int .i32 px)).setCell ⟨a1, 1, none⟩ (.int .i32 py)) := ((Fr.refl _ _).setCell _ _ (.inl (by simp))).setCell _ _ (.inl (by simp))
      have hb5 := F5.blk hb4 (by simp; exact fun e => hn1 e)
      clear u0 u1 u2 u3 u4 u5
      have e0 := hR5.at 0 (v := .int .i32 px) rfl
      have e1 := hR5.at 1 (v := .int .i32 py) rfl
      have hfin : ∃ s', Ending.returned (Value.tuple #[.agg #[.int .i32 px, .int .i32 py], .bool true, .int .i64 0]) = .returned (.tuple #[.agg #[.int .i32 px, .int .i32 py], .bool true, .int .i64 0]) ∧ SpR px py qx qy t0 t sp s' ∧ ObAt ((W1.setCell ⟨a1, 0, none⟩ (.int .i32 px)).setCell ⟨a1, 1, none⟩ (.int .i32 py)) x bB id num t qx qy s' ∧ Fr [x] w ((W1.setCell ⟨a1, 0, none⟩ (.int .i32 px)).setCell ⟨a1, 1, none⟩ (.int .i32 py)) := ⟨s, rfl, hs, hb5, (((fa.mono (T := [x]) (by simp)).trans f3 (fun s hs => .inl hs)).trans f4 (fun s hs => .inl hs)).trans F5 (fun s hs => .inr (by simp at hs; subst hs; exact HSZ.out))⟩
      exact bodyPost_ret (v := .tuple #[.agg #[.int .i32 px, .int .i32 py], .bool true, .int .i64 0]) (by simp [results, Tryd.results93, go_sem, e0, e1]) rfl hfin
end Go.Proofs.YtgoolkgjcmdilaaDoor
end
