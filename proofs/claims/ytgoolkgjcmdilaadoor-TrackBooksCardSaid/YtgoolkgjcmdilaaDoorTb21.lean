/-
  Tb, part 21 of 36: the texts KbC.
-/
import Derived.Test.YtgoolkgjcmdilaaDoorTb15
import Derived.Test.YtgoolkgjcmdilaaDoorTb20
section
namespace Go.Proofs.YtgoolkgjcmdilaaDoor
open Go.RowKit
set_option linter.unusedVariables false
set_option linter.unusedSimpArgs false
attribute [local go_sem] Oper.semAt_some
/-- A fence's place. -/
def plOf (Fs : List (Int × Int)) (f : Int) : Int := ((Fs[rank Fs f]?).getD (0, 0)).2
/-- A set with these, too. -/
def addAll (B : List Bool) (ps : List Int) : List Bool := ps.foldl addB B
theorem addAll_snoc {B : List Bool} {ps : List Int} {k : Nat} {p : Int} (h : ps[k]? = some p) : addAll B (ps.take (k + 1)) = addB (addAll B (ps.take k)) p := by
  unfold addAll
  rw [take_snoc h, List.foldl_append]
  rfl
def i64v (l : List Int) : List Value := l.map (Value.int .i64)
theorem i64v_app (a b : List Int) : i64v (a ++ b) = i64v a ++ i64v b := by simp [i64v]
def KLayPost (w : World) (k bO bN bP : Nat) (v : Value) (Os : List (Int × Nat)) (Fs : List (Int × Int)) (rO : Int) (rN : Nat) (o : VO) (e : Ending) (w' : World) : Prop :=
  (¬ UpI o.ids ∧ e = .returned (.int .i64 2) ∧ Fr [] w w') ∨
  (UpI o.ids ∧ hasId Os o.id = true ∧ e = .returned (.int .i64 2) ∧ Fr [] w w') ∨
  (UpI o.ids ∧ hasId Os o.id = false ∧ ¬ (Os.length : Int) < rO ∧ e = .returned (.int .i64 5) ∧ Fr [] w w') ∨
  (UpI o.ids ∧ hasId Os o.id = false ∧ (Os.length : Int) < rO ∧ ¬ (∀ f ∈ o.ids, hasId Fs f = true) ∧ e = .returned (.int .i64 181) ∧ Fr [] w w') ∨
  (UpI o.ids ∧ hasId Os o.id = false ∧ (Os.length : Int) < rO ∧ (∀ f ∈ o.ids, hasId Fs f = true) ∧ e = .returned (.int .i64 0) ∧
    ∃ x bB vB ws v', ObAt w' x bB o.id o.num o.t o.px o.py o.sp ∧ BitsAt w' bB vB (addAll (List.replicate rN false) (o.ids.map (plOf Fs))) ws ∧ TabO w' bO v' (insAt Os o.id x) rO
        ∧ (v'.ownBlock = v.ownBlock ∨ ∃ g, v'.ownBlock = some g ∧ w.heap.size ≤ g) ∧ w.heap.size ≤ x ∧ w.heap.size ≤ bB ∧ (∀ g, vB.ownBlock = some g → w.heap.size ≤ g) ∧ Fr (bO :: v.ownBlock.toList) w w')
set_option maxRecDepth 100000 in
set_option maxHeartbeats 2000000 in
theorem klay (w : World) (k bO bN bP : Nat) (v vN : Value) (Os : List (Int × Nat)) (Fs : List (Int × Int)) (rO : Int) (rN : Nat) (x : RO) (o : VO)
    (h : BkAt w k bO bN bP) (hO : TabO w bO v Os rO) (hN : TabN w bN vN Fs rN) (hx : Is w x o) (hid : U32 o.id) (hu : ∀ f ∈ o.ids, U32 f) (hI : o.ids.length ≤ 70368744177664) :
    Calls Tryd.prog 117 #[.pointer (some ⟨k, 0, none⟩), .agg #[.int .u32 x.id, .int .u32 x.num, .int .u32 x.t, .int .i32 x.px, .int .i32 x.py, .float .f64 x.sp, .slice x.p x.n x.c]] w (KLayPost w k bO bN bP v Os Fs rO rN o) := by
  obtain ⟨xid, xnum, xt, xpx, xpy, xsp, xp, xn, xc⟩ := x
  obtain ⟨i0, i1, i2, i3, i4, i5, i6⟩ := hx
  dsimp only at i0 i1 i2 i3 i4 i5
  subst i0 i1 i2 i3 i4 i5
  unfold RO.v at i6
  dsimp only at i6 ⊢
  obtain ⟨pi, ci, hi⟩ := i6.form
  have hxn : xn = o.ids.length := by have := (Value.slice.inj hi).2.1; exact this
  obtain ⟨n, hn⟩ : ∃ n, n = o.ids.length := ⟨_, rfl⟩
  rw [← hn] at hxn
  obtain rfl : n = xn := hxn.symm
  have F0 : Fr [] w (w.alloc (.cells #[.int .u32 o.id, .int .u32 o.num, .int .u32 o.t, .int .i32 o.px, .int .i32 o.py, .float .f64 o.sp, .slice xp n xc] 119)) := (Fr.refl _ _).alloc _
  have hA := Blk.new w #[.int .u32 o.id, .int .u32 o.num, .int .u32 o.t, .int .i32 o.px, .int .i32 o.py, .float .f64 o.sp, .slice xp n xc] 119
  have HI := Lib.hid (And.intro (i6.grow F0) (And.intro hn hu))
  have HM := Lib.hid (And.intro F0 (And.intro (h.grow F0) (And.intro (hO.grow F0) (hN.grow F0))))
  have HID := Lib.hid hid
  have HLO := Lib.hid hO.low
  have hns : n ≤ 70368744177664 := by omega
  have HNS := Lib.hid hns
  have HTH := Lib.hid (there_yes _ k bO bN bP (h.grow F0))
  clear h hO hN hi hn i6 hI hid hu
  go_enter Tryd.func117, Tryd.ntmps117
  go_wp2_with fail
  (with_reducible refine (HTH.out).mono ?_)
  rintro e w1 ⟨rfl, rfl⟩
  obtain ⟨w0, hw0⟩ : ∃ w0, w.alloc (.cells #[.int .u32 o.id, .int .u32 o.num, .int .u32 o.t, .int .i32 o.px, .int .i32 o.py, .float .f64 o.sp, .slice xp n xc] 119) = w0 := ⟨_, rfl⟩
  obtain ⟨a0, ha0⟩ : ∃ a0, a0 = w.heap.size := ⟨_, rfl⟩
  have HO := Lib.hid (show w.heap.size ≤ a0 by omega)
  rw [hw0] at hA HI HM F0 ⊢
  rw [← ha0] at hA ⊢
  have HA := Lib.hid hA
  clear hw0 ha0 hA F0 HTH
  go_wp2
  go_loopw [5] (fun i wr => ∃ q : Nat, (n = 0 ∧ q = 0 ∨ q < n) ∧ i = .int .i64 ((q : Int) + 1) ∧ UpI (o.ids.take (q + 1)) ∧ Fr [] w0 wr) (fun i _ => n + 1 - (intOf i).toNat)
  case atStart =>
    refine ⟨0, by omega, rfl, ?_, Fr.refl _ _⟩
    unfold UpI
    cases o.ids with
    | nil => simp
    | cons y l => simp
  case round =>
    obtain ⟨q, hq, rfl, hup, hf⟩ := hrel
    have HG := Lib.hid (And.intro hup hf)
    have hA := hf.blk HA.out (by simp)
    have y0 := hA.at 0 (v := .int .u32 o.id) rfl
    have y6 := hA.at 6 (v := .slice xp n xc) rfl
    have HA1 := Lib.hid hA
    clear hA hf
    by_cases hlt : q + 1 < n
    · obtain ⟨a, ha⟩ : ∃ a, o.ids[q]? = some a := ⟨_, List.getElem?_eq_getElem (by have := HI.out.2.1; omega)⟩
      obtain ⟨b, hb⟩ : ∃ b, o.ids[q + 1]? = some b := ⟨_, List.getElem?_eq_getElem (by have := HI.out.2.1; omega)⟩
      have hI1 := HI.out.1.grow HG.out.2
      obtain ⟨g, o1, cp, hv, c0⟩ := IdS.at hI1 ha
      obtain ⟨g2, o2, cp2, hv2, c1⟩ := IdS.at hI1 hb
      have e2 := (Value.slice.inj (hv.symm.trans hv2)).1
      obtain rfl := (Value.slice.inj hv).1
      cases e2
      have hiff := upI_take_succ hup ha hb
      clear hv hv2 ha hb hup hI1
      have k1 : IntKind.i64.wrap ((q : Int) + 1 - 1) = (q : Int) := by rw [show (q : Int) + 1 - 1 = q by omega]; exact IntWalk.i64_in _ (by omega)
      have k2 : IntKind.i64.wrap (q : Int) = (q : Int) := IntWalk.i64_in _ (by omega)
      have k3 : q < n := by omega
      have k4 : 0 ≤ (q : Int) + 1 := by omega
      have k5 : ((q : Int) + 1).toNat = q + 1 := by omega
      by_cases hab : a < b
      · have HU := Lib.hid (hiff.2 hab)
        clear hiff
        go_wp2_with fail
        go_quiet (fail)
        rename Nat => nq
        clear k1 k2 k4 k5
        go_wp2
        go_roundw
        case rel => exact ⟨q + 1, by omega, by go_num, HU.out, HG.out.2.drewN _⟩
        case measure => simp [intOf]; omega
      · have hnu : ¬ UpI o.ids := fun h => hab (hiff.1 (upI_take h _))
        have HN := Lib.hid hnu
        clear hiff hnu
        go_wp2_with fail
        go_quiet (fail)
        clear k1 k2 k4 k5
        go_wp2
        go_ret
        exact .inl ⟨HN.out, rfl, (HM.out.1.trans HG.out.2 (by simp)).drewN _⟩
    · have hfull : UpI o.ids := by
        have := hup
        rwa [List.take_of_length_le (by have := HI.out.2.1; omega)] at this
      have HU := Lib.hid hfull
      clear hup hfull
      have hBk := HM.out.2.1.grow HG.out.2
      have hOk := HM.out.2.2.1.grow HG.out.2
      have hAk := HA1.out
      have hid := HID.out
      by_cases hhas' : hasId Os o.id = true
      · obtain ⟨x, hhas⟩ := (has_at hOk.up o.id).1 hhas'
        have HX := Lib.hid hhas'
        clear hhas'
        go_wp2_with fail
        refine region_grow (by kernel_rfl) (by kernel_rfl) [.is (.pointer (some ⟨k, 0, none⟩)), .is (.pointer (some ⟨k, 0, none⟩)), .is (.pointer (some ⟨k, 0, none⟩)), .is (.pointer (some ⟨bO, 0, none⟩)), .is (.pointer (some ⟨a0, 0, none⟩)), .is (.int .u32 o.id), .is (.tuple #[.pointer (some ⟨x, 0, none⟩), .bool true]), .is (.tuple #[.pointer (some ⟨x, 0, none⟩), .bool true]), .is (.pointer (some ⟨x, 0, none⟩)), .is (.bool true), .is (.pointer (some ⟨x, 0, none⟩)), .is (.bool true)] 91 rfl (by kernel_rfl) [(0, 39), (1, 40), (2, 41), (3, 42), (4, 43), (5, 44), (6, 45), (7, 38), (8, 46), (9, 47), (10, 6), (11, 7)] (by kernel_rfl) ?_ ?_
        · intro q a1 W1 i hi hnq hd hG K hK
          have hlt : i < 12 := hi
          have hc : i = 0 ∨ i = 1 ∨ i = 2 ∨ i = 3 ∨ i = 4 ∨ i = 5 ∨ i = 6 ∨ i = 7 ∨ i = 8 ∨ i = 9 ∨ i = 10 ∨ i = 11 := by omega
          rcases hc with rfl | rfl | rfl | rfl | rfl | rfl | rfl | rfl | rfl | rfl | rfl | rfl
          · have e0 := hG.old 0 (by kernel_rfl)
            refine op_do rfl (wanted_none rfl) hK (fun K' hK' => ?_)
            unfold Oper.wp
            go_simp
            exact hK' _ _ (Fr.refl _ _) rfl
          · have e39 := hG.val (v := .pointer (some ⟨k, 0, none⟩)) 0 39 (hd _ rfl ⟨0, .data⟩ (by simp) rfl) rfl rfl
            refine op_do rfl (wanted_none rfl) hK (fun K' hK' => ?_)
            unfold Oper.wp
            go_simp
            exact hK' _ _ (Fr.refl _ _) rfl
          · have e40 := hG.val (v := .pointer (some ⟨k, 0, none⟩)) 1 40 (hd _ rfl ⟨1, .data⟩ (by simp) rfl) rfl rfl
            refine op_do rfl (wanted_none rfl) hK (fun K' hK' => ?_)
            unfold Oper.wp
            go_simp
            exact hK' _ _ (Fr.refl _ _) rfl
          · have e41 := hG.val (v := .pointer (some ⟨k, 0, none⟩)) 2 41 (hd _ rfl ⟨2, .data⟩ (by simp) rfl) rfl rfl
            have c3 := (hG.grown.cell (a := ⟨k, 0, none⟩) hBk.lt (by simp)).trans (Blk.at hBk 0 rfl)
            refine op_do rfl (wanted_none rfl) hK (fun K' hK' => ?_)
            unfold Oper.wp
            go_simp
            exact hK' _ _ (Fr.refl _ _) rfl
          · have e3 := hG.old 3 (by kernel_rfl)
            refine op_do rfl (wanted_none rfl) hK (fun K' hK' => ?_)
            unfold Oper.wp
            go_simp
            exact hK' _ _ (Fr.refl _ _) rfl
          · have e43 := hG.val (v := .pointer (some ⟨a0, 0, none⟩)) 4 43 (hd _ rfl ⟨4, .data⟩ (by simp) rfl) rfl rfl
            have c5 := (hG.grown.cell (a := ⟨a0, 0, none⟩) hAk.lt (by simp)).trans (hAk.at 0 rfl)
            refine op_do rfl (wanted_none rfl) hK (fun K' hK' => ?_)
            unfold Oper.wp
            go_simp
            exact hK' _ _ (Fr.refl _ _) rfl
          · have e42 := hG.val (v := .pointer (some ⟨bO, 0, none⟩)) 3 42 (hd _ rfl ⟨3, .data⟩ (by simp) rfl) rfl rfl
            have e44 := hG.val (v := .int .u32 o.id) 5 44 (hd _ rfl ⟨5, .data⟩ (by simp) rfl) rfl rfl
            refine op_do rfl (wanted_none rfl) hK (fun K' hK' => ?_)
            unfold Oper.wp
            go_simp
            refine (getO_yes W1 bO v Os rO o.id x (hOk.grow hG.grown) hid hhas).mono ?_
            rintro e W2 ⟨rfl, f⟩
            exact hK' _ _ f rfl
          · have e45 := hG.val (v := .tuple #[.pointer (some ⟨x, 0, none⟩), .bool true]) 6 45 (hd _ rfl ⟨6, .data⟩ (by simp) rfl) rfl rfl
            refine op_do rfl (wanted_none rfl) hK (fun K' hK' => ?_)
            unfold Oper.wp
            go_simp
            exact hK' _ _ (Fr.refl _ _) rfl
          · have e38 := hG.val (v := .tuple #[.pointer (some ⟨x, 0, none⟩), .bool true]) 7 38 (hd _ rfl ⟨7, .data⟩ (by simp) rfl) rfl rfl
            refine op_do rfl (wanted_none rfl) hK (fun K' hK' => ?_)
            unfold Oper.wp
            go_simp
            exact hK' _ _ (Fr.refl _ _) rfl
          · have e38 := hG.val (v := .tuple #[.pointer (some ⟨x, 0, none⟩), .bool true]) 7 38 (hd _ rfl ⟨7, .data⟩ (by simp) rfl) rfl rfl
            refine op_do rfl (wanted_none rfl) hK (fun K' hK' => ?_)
            unfold Oper.wp
            go_simp
            exact hK' _ _ (Fr.refl _ _) rfl
          · have e46 := hG.val (v := .pointer (some ⟨x, 0, none⟩)) 8 46 (hd _ rfl ⟨8, .data⟩ (by simp) rfl) rfl rfl
            refine op_do rfl (wanted_none rfl) hK (fun K' hK' => ?_)
            unfold Oper.wp
            go_simp
            exact hK' _ _ (Fr.refl _ _) rfl
          · have e47 := hG.val (v := .bool true) 9 47 (hd _ rfl ⟨9, .data⟩ (by simp) rfl) rfl rfl
            refine op_do rfl (wanted_none rfl) hK (fun K' hK' => ?_)
            unfold Oper.wp
            go_simp
            exact hK' _ _ (Fr.refl _ _) rfl
        · intro vs W1 f1 hv
          have r0 : vs 0 = .pointer (some ⟨k, 0, none⟩) := hv 0 39 (by decide) rfl
          have r1 : vs 1 = .pointer (some ⟨k, 0, none⟩) := hv 1 40 (by decide) rfl
          have r2 : vs 2 = .pointer (some ⟨k, 0, none⟩) := hv 2 41 (by decide) rfl
          have r3 : vs 3 = .pointer (some ⟨bO, 0, none⟩) := hv 3 42 (by decide) rfl
          have r4 : vs 4 = .pointer (some ⟨a0, 0, none⟩) := hv 4 43 (by decide) rfl
          have r5 : vs 5 = .int .u32 o.id := hv 5 44 (by decide) rfl
          have r6 : vs 6 = .tuple #[.pointer (some ⟨x, 0, none⟩), .bool true] := hv 6 45 (by decide) rfl
          have r7 : vs 7 = .tuple #[.pointer (some ⟨x, 0, none⟩), .bool true] := hv 7 38 (by decide) rfl
          have r8 : vs 8 = .pointer (some ⟨x, 0, none⟩) := hv 8 46 (by decide) rfl
          have r9 : vs 9 = .bool true := hv 9 47 (by decide) rfl
          have r10 : vs 10 = .pointer (some ⟨x, 0, none⟩) := hv 10 6 (by decide) rfl
          have r11 : vs 11 = .bool true := hv 11 7 (by decide) rfl
          simp only [lay, List.foldl_cons, List.foldl_nil, r0, r1, r2, r3, r4, r5, r6, r7, r8, r9, r10, r11]
          simp only [List.setIfInBounds_toArray, List.set_cons_zero, List.set_cons_succ]
          clear hv r0 r1 r2 r3 r4 r5 r6 r7 r8 r9 r10 r11
          clear hBk hOk hAk
          go_wp2
          go_ret
          exact .inr (.inl ⟨HU.out, HX.out, rfl, (HM.out.1.trans HG.out.2 (by simp)).trans f1 (by simp)⟩)
      · have hhas : hasId Os o.id = false := by simpa using hhas'
        have HX0 := Lib.hid hhas
        clear hhas'
        go_wp2_with fail
        refine region_grow (by kernel_rfl) (by kernel_rfl) [.is (.pointer (some ⟨k, 0, none⟩)), .is (.pointer (some ⟨k, 0, none⟩)), .is (.pointer (some ⟨k, 0, none⟩)), .is (.pointer (some ⟨bO, 0, none⟩)), .is (.pointer (some ⟨a0, 0, none⟩)), .is (.int .u32 o.id), .is (.tuple #[.pointer none, .bool false]), .is (.tuple #[.pointer none, .bool false]), .is (.pointer none), .is (.bool false), .is (.pointer none), .is (.bool false)] 91 rfl (by kernel_rfl) [(0, 39), (1, 40), (2, 41), (3, 42), (4, 43), (5, 44), (6, 45), (7, 38), (8, 46), (9, 47), (10, 6), (11, 7)] (by kernel_rfl) ?_ ?_
        · intro q a1 W1 i hi hnq hd hG K hK
          have hlt : i < 12 := hi
          have hc : i = 0 ∨ i = 1 ∨ i = 2 ∨ i = 3 ∨ i = 4 ∨ i = 5 ∨ i = 6 ∨ i = 7 ∨ i = 8 ∨ i = 9 ∨ i = 10 ∨ i = 11 := by omega
          rcases hc with rfl | rfl | rfl | rfl | rfl | rfl | rfl | rfl | rfl | rfl | rfl | rfl
          · have e0 := hG.old 0 (by kernel_rfl)
            refine op_do rfl (wanted_none rfl) hK (fun K' hK' => ?_)
            unfold Oper.wp
            go_simp
            exact hK' _ _ (Fr.refl _ _) rfl
          · have e39 := hG.val (v := .pointer (some ⟨k, 0, none⟩)) 0 39 (hd _ rfl ⟨0, .data⟩ (by simp) rfl) rfl rfl
            refine op_do rfl (wanted_none rfl) hK (fun K' hK' => ?_)
            unfold Oper.wp
            go_simp
            exact hK' _ _ (Fr.refl _ _) rfl
          · have e40 := hG.val (v := .pointer (some ⟨k, 0, none⟩)) 1 40 (hd _ rfl ⟨1, .data⟩ (by simp) rfl) rfl rfl
            refine op_do rfl (wanted_none rfl) hK (fun K' hK' => ?_)
            unfold Oper.wp
            go_simp
            exact hK' _ _ (Fr.refl _ _) rfl
          · have e41 := hG.val (v := .pointer (some ⟨k, 0, none⟩)) 2 41 (hd _ rfl ⟨2, .data⟩ (by simp) rfl) rfl rfl
            have c3 := (hG.grown.cell (a := ⟨k, 0, none⟩) hBk.lt (by simp)).trans (Blk.at hBk 0 rfl)
            refine op_do rfl (wanted_none rfl) hK (fun K' hK' => ?_)
            unfold Oper.wp
            go_simp
            exact hK' _ _ (Fr.refl _ _) rfl
          · have e3 := hG.old 3 (by kernel_rfl)
            refine op_do rfl (wanted_none rfl) hK (fun K' hK' => ?_)
            unfold Oper.wp
            go_simp
            exact hK' _ _ (Fr.refl _ _) rfl
          · have e43 := hG.val (v := .pointer (some ⟨a0, 0, none⟩)) 4 43 (hd _ rfl ⟨4, .data⟩ (by simp) rfl) rfl rfl
            have c5 := (hG.grown.cell (a := ⟨a0, 0, none⟩) hAk.lt (by simp)).trans (hAk.at 0 rfl)
            refine op_do rfl (wanted_none rfl) hK (fun K' hK' => ?_)
            unfold Oper.wp
            go_simp
            exact hK' _ _ (Fr.refl _ _) rfl
          · have e42 := hG.val (v := .pointer (some ⟨bO, 0, none⟩)) 3 42 (hd _ rfl ⟨3, .data⟩ (by simp) rfl) rfl rfl
            have e44 := hG.val (v := .int .u32 o.id) 5 44 (hd _ rfl ⟨5, .data⟩ (by simp) rfl) rfl rfl
            refine op_do rfl (wanted_none rfl) hK (fun K' hK' => ?_)
            unfold Oper.wp
            go_simp
            refine (getO_no W1 bO v Os rO o.id (hOk.grow hG.grown) hid hhas).mono ?_
            rintro e W2 ⟨rfl, f⟩
            exact hK' _ _ f rfl
          · have e45 := hG.val (v := .tuple #[.pointer none, .bool false]) 6 45 (hd _ rfl ⟨6, .data⟩ (by simp) rfl) rfl rfl
            refine op_do rfl (wanted_none rfl) hK (fun K' hK' => ?_)
            unfold Oper.wp
            go_simp
            exact hK' _ _ (Fr.refl _ _) rfl
          · have e38 := hG.val (v := .tuple #[.pointer none, .bool false]) 7 38 (hd _ rfl ⟨7, .data⟩ (by simp) rfl) rfl rfl
            refine op_do rfl (wanted_none rfl) hK (fun K' hK' => ?_)
            unfold Oper.wp
            go_simp
            exact hK' _ _ (Fr.refl _ _) rfl
          · have e38 := hG.val (v := .tuple #[.pointer none, .bool false]) 7 38 (hd _ rfl ⟨7, .data⟩ (by simp) rfl) rfl rfl
            refine op_do rfl (wanted_none rfl) hK (fun K' hK' => ?_)
            unfold Oper.wp
            go_simp
            exact hK' _ _ (Fr.refl _ _) rfl
          · have e46 := hG.val (v := .pointer none) 8 46 (hd _ rfl ⟨8, .data⟩ (by simp) rfl) rfl rfl
            refine op_do rfl (wanted_none rfl) hK (fun K' hK' => ?_)
            unfold Oper.wp
            go_simp
            exact hK' _ _ (Fr.refl _ _) rfl
          · have e47 := hG.val (v := .bool false) 9 47 (hd _ rfl ⟨9, .data⟩ (by simp) rfl) rfl rfl
            refine op_do rfl (wanted_none rfl) hK (fun K' hK' => ?_)
            unfold Oper.wp
            go_simp
            exact hK' _ _ (Fr.refl _ _) rfl
        · intro vs W1 f1 hv
          have r0 : vs 0 = .pointer (some ⟨k, 0, none⟩) := hv 0 39 (by decide) rfl
          have r1 : vs 1 = .pointer (some ⟨k, 0, none⟩) := hv 1 40 (by decide) rfl
          have r2 : vs 2 = .pointer (some ⟨k, 0, none⟩) := hv 2 41 (by decide) rfl
          have r3 : vs 3 = .pointer (some ⟨bO, 0, none⟩) := hv 3 42 (by decide) rfl
          have r4 : vs 4 = .pointer (some ⟨a0, 0, none⟩) := hv 4 43 (by decide) rfl
          have r5 : vs 5 = .int .u32 o.id := hv 5 44 (by decide) rfl
          have r6 : vs 6 = .tuple #[.pointer none, .bool false] := hv 6 45 (by decide) rfl
          have r7 : vs 7 = .tuple #[.pointer none, .bool false] := hv 7 38 (by decide) rfl
          have r8 : vs 8 = .pointer none := hv 8 46 (by decide) rfl
          have r9 : vs 9 = .bool false := hv 9 47 (by decide) rfl
          have r10 : vs 10 = .pointer none := hv 10 6 (by decide) rfl
          have r11 : vs 11 = .bool false := hv 11 7 (by decide) rfl
          simp only [lay, List.foldl_cons, List.foldl_nil, r0, r1, r2, r3, r4, r5, r6, r7, r8, r9, r10, r11]
          simp only [List.setIfInBounds_toArray, List.set_cons_zero, List.set_cons_succ]
          clear hv r0 r1 r2 r3 r4 r5 r6 r7 r8 r9 r10 r11
          have HG1 := Lib.hid (HG.out.2.trans f1 (by simp))
          have HRm := Lib.hid (room_any W1 k bO bN bP v Os rO (hBk.grow f1) (hOk.grow f1))
          clear hBk hOk hAk f1
          go_wp2_with fail
          (with_reducible refine (HRm.out).mono ?_)
          rintro e w2 ⟨rfl, f2⟩
          have HG2 := Lib.hid (HG1.out.trans f2 (by simp))
          clear f2 HRm HG1
          by_cases hroom : (Os.length : Int) < rO
          · rw [decide_eq_true hroom]
            have HRo := Lib.hid hroom
            clear hroom
            have hA2 := HG2.out.blk HA.out (by simp)
            have y5 := hA2.at 6 (v := .slice xp n xc) rfl
            have HA2 := Lib.hid hA2
            clear hA2
            obtain ⟨w3, hw3⟩ : ∃ w3, w3 = w2 := ⟨_, rfl⟩
            rw [← hw3] at HG2 HA2 y5 ⊢
            clear hw3 HG
            go_wp2
            clear y5
            go_loopw [8, 55] (fun u i wq => ∃ j : Nat, j ≤ n ∧ i = .int .i64 j ∧ RowNew w0 3 1 wq u j (i64v ((o.ids.take j).map (plOf Fs))) ∧ ∀ f ∈ o.ids.take j, hasId Fs f = true) (fun _ i _ => n - (intOf i).toNat)
            case atStart =>
              exact ⟨0, by omega, rfl, ⟨World.ownsRow_nil _ _ _ _, fun g hg => by simp [Value.ownBlock] at hg, HG2.out⟩, by simp⟩
            case round =>
              obtain ⟨j, hj, rfl, hr, hall⟩ := hrel
              obtain ⟨pu, cu, rfl⟩ := hr.form
              have HR := Lib.hid (And.intro hr hall)
              clear hr hall
              by_cases hlt2 : j < n
              · obtain ⟨f, hx⟩ : ∃ f, o.ids[j]? = some f := ⟨_, List.getElem?_eq_getElem (by have := HI.out.2.1; omega)⟩
                obtain ⟨g, o1, cp, hv, c0⟩ := IdS.at (HI.out.1.grow HR.out.1.fr) hx
                obtain rfl := (Value.slice.inj hv).1
                have hfu : U32 f := HI.out.2.2 f (List.mem_of_getElem? hx)
                have d1 := Blk.at (HM.out.2.1.grow HR.out.1.fr) 1 (v := .pointer (some ⟨bN, 0, none⟩)) rfl
                have HX := Lib.hid (show o.ids.take (j + 1) = o.ids.take j ++ [f] from take_snoc hx)
                have HXm := Lib.hid (show f ∈ o.ids from List.mem_of_getElem? hx)
                have hTN := HM.out.2.2.2.grow HR.out.1.fr
                clear hv hx
                by_cases hF : hasId Fs f = true
                · obtain ⟨p, hp⟩ := (has_at hTN.up f).1 hF
                  have HC := Lib.hid (getN_yes wr bN vN Fs rN f p hTN hfu hp)
                  have HP := Lib.hid (show plOf Fs f = p by unfold plOf; rw [hp]; rfl)
                  have hlen : j ≤ 65536 := by
                    have h1 := upI_small (F := Fs.map (·.1)) (upI_take HU.out j) (fun y hy => by
                      have := HR.out.2 y hy
                      obtain ⟨q, hq⟩ := (has_at hTN.up y).1 this
                      exact List.mem_map.2 ⟨_, List.mem_of_getElem? hq, rfl⟩)
                    have h2 := HI.out.2.1
                    have h3 := hTN.lim
                    rw [List.length_take, List.length_map] at h1
                    omega
                  have HF := Lib.hid (And.intro hF hlen)
                  clear hF hp hTN hfu hlen
                  go_wp2_with fail
                  (with_reducible refine (HC.out).mono ?_)
                  rintro e w4 ⟨rfl, f4⟩
                  have HS2 := Lib.hid (And.intro HF.out.2 (And.intro f4 (own_fr (S := []) (HR.out.1.grow f4).own ((Fr.refl [] w4).alloc (.cells #[.int .i64 p] 3)) (by simp))))
                  clear f4 d1 c0
                  go_wp2_with (at_builtin; go_must (refine wpList_app _ rfl (.tmp 70) (.tmp 72) 82 rfl 3 (.int .i64 0) 1 8 Tryd.underlying82 iinfo rfl (by decide) _ _ _ rfl HS2.out.2.2 ⟨_, 0, none⟩ 1 1 [.int .i64 p] rfl rfl (new_one _ _ _ _ rfl) (by simp [Value.oneCell']) (by have := HS2.out.1; unfold maxLen; omega) (by have := HS2.out.1; omega) ?_); intro v2 w5 happ; have HAP := Lib.hid happ; clear happ)
                  go_roundw
                  case rel =>
                    refine ⟨j + 1, by omega, by go_num, ?_, ?_⟩
                    · rw [HX.out, List.map_append, i64v_app, List.map_singleton, HP.out]
                      exact ((HR.out.1.grow HS2.out.2.1).grow ((Fr.refl [] _).alloc _)).app HAP.out
                    · intro y hy
                      rw [HX.out] at hy
                      rcases List.mem_append.1 hy with q | q
                      · exact HR.out.2 y q
                      · simp at q; rw [q]; exact HF.out.1
                  case measure => simp [intOf]; omega
                · have hF' : hasId Fs f = false := by simpa using hF
                  have HC := Lib.hid (getN_no wr bN vN Fs rN f hTN hfu hF')
                  have HF := Lib.hid hF
                  clear hF hF' hTN hfu
                  go_wp2_with fail
                  (with_reducible refine (HC.out).mono ?_)
                  rintro e w4 ⟨rfl, f4⟩
                  have HF4 := Lib.hid f4
                  clear f4 d1 c0
                  go_wp2
                  go_ret
                  exact .inr (.inr (.inr (.inl ⟨HU.out, HX0.out, HRo.out, fun h => HF.out (h f HXm.out), rfl, (HM.out.1.trans HR.out.1.fr (by simp)).trans HF4.out (by simp)⟩)))
              · obtain rfl : j = n := by omega
                have htk : o.ids.take j = o.ids := List.take_of_length_le (by have := HI.out.2.1; omega)
                obtain ⟨hrn, hall⟩ := HR.out
                rw [htk] at hrn hall
                have hAr := hrn.fr.blk HA.out (by simp)
                have y0 := hAr.at 0 (v := .int .u32 o.id) rfl
                have y1 := hAr.at 1 (v := .int .u32 o.num) rfl
                have y2 := hAr.at 2 (v := .int .u32 o.t) rfl
                have y3 := hAr.at 3 (v := .int .i32 o.px) rfl
                have y4 := hAr.at 4 (v := .int .i32 o.py) rfl
                have y5 := hAr.at 5 (v := .float .f64 o.sp) rfl
                have y6 := hAr.at 6 (v := .slice xp j xc) rfl
                have HC := Lib.hid (put_any' wr k bO bN bP v vN Os Fs rO rN o.id o.num o.t o.px o.py o.sp xp j xc (HM.out.2.1.grow hrn.fr) (HM.out.2.2.1.grow hrn.fr) (HM.out.2.2.2.grow hrn.fr) HID.out HX0.out HRo.out)
                have HRn := Lib.hid (And.intro hrn hall)
                clear htk hrn hall hAr
                go_wp2_with fail
                (with_reducible refine (HC.out).mono ?_)
                rintro e w4 ⟨x, bB, vB, ws, v', rfl, hX, hB, hT, hv, n1, n2, n3, f4⟩
                have hlow : ∀ s ∈ bO :: v.ownBlock.toList, s < w.heap.size := HLO.out
                have hrow4 := own_fr HRn.out.1.own f4 (fun g hg h => by have h1 := HRn.out.1.low g hg; have h2 := hlow g h; have h3 := HM.out.1.size; omega)
                obtain ⟨ps, hps⟩ : ∃ ps, ps = o.ids.map (plOf Fs) := ⟨_, rfl⟩
                have hpl : ps.length = j := by rw [hps, List.length_map, HI.out.2.1]
                rw [← hps] at hrow4
                have hrd := RdF.of_own (by decide) hrow4 (by rw [show j = ps.length from hpl.symm]; have := HI.out.2.1; have := HNS.out; unfold maxLen; omega)
                have hwr : w0.heap.size ≤ wr.heap.size := HRn.out.1.fr.size
                have hff : Fr (bO :: v.ownBlock.toList) w w4 := ((HM.out.1.trans HRn.out.1.fr (by simp)).mono (T := bO :: v.ownBlock.toList) (by simp)).trans f4 (fun s hs => .inl hs)
                have hge : w.heap.size ≤ wr.heap.size := Nat.le_trans HM.out.1.size hwr
                have HRW := Lib.hid (show ∀ g, (Value.slice pu j cu).ownBlock = some g → g ∉ vB.ownBlock.toList from fun g hg h => by have h1 := own_lt HRn.out.1.own hg; have h2 := n3 g (by simpa using h); omega)
                have HZ := Lib.hid (And.intro hX (And.intro hB (And.intro hT (And.intro hv (And.intro n1 (And.intro n2 (And.intro n3 (And.intro hff (And.intro hrd (And.intro hps (And.intro hpl (And.intro hge HRn.out.2))))))))))))
                clear hX hB hT hv n1 n2 n3 f4 hlow hrow4 hps hpl hrd hwr hff hge HC HRn HR y0 y1 y2 y3 y4 y5 y6
                go_wp2
                go_loopw [80] (fun i wq => ∃ q : Nat, q ≤ j ∧ i = .int .i64 q ∧ (∃ ws, BitsAt wq bB vB (addAll (List.replicate rN false) (ps.take q)) ws) ∧ Fr vB.ownBlock.toList w4 wq) (fun i _ => j - (intOf i).toNat)
                case atStart =>
                  exact ⟨0, by omega, rfl, ⟨ws, HZ.out.2.1⟩, Fr.refl _ _⟩
                case round =>
                  obtain ⟨q, hq, rfl, ⟨ws2, hb⟩, hf⟩ := hrel
                  obtain ⟨hX, hB, hT, hv, n1, n2, n3, hff, hrd, hps, hpl, hge, hall⟩ := HZ.out
                  have hn1 : x ∉ vB.ownBlock.toList := own_notin hB.own hX (by decide)
                  by_cases hlt3 : q < j
                  · obtain ⟨p, hp⟩ : ∃ p, ps[q]? = some p := ⟨_, List.getElem?_eq_getElem (by omega)⟩
                    have hrd' : RdF wr (.slice pu j cu) j 1 (i64v ps) := RdF.fr hrd hf (fun g hg h => HRW.out g hg h)
                    obtain ⟨g, o1, cp, hv', _, _, hc⟩ := RdF.pos hrd' (by omega)
                    obtain rfl := (Value.slice.inj hv').1
                    have c0 := hc q (.int .i64 p) (by simp [i64v, hp])
                    have x0 := Blk.at (hf.blk hX hn1) 0 (v := .pointer (some ⟨bB, 0, none⟩)) rfl
                    have HC := Lib.hid (add_any wr bB vB (addAll (List.replicate rN false) (ps.take q)) ws2 p hb)
                    have HS := Lib.hid (addAll_snoc (B := List.replicate rN false) hp)
                    have HF := Lib.hid hf
                    clear hX hB hT hv n1 n2 n3 hff hrd hps hpl hge hall hn1 hp hrd' hv' hc hb hf
                    go_wp2_with fail
                    (with_reducible refine (HC.out).mono ?_)
                    rintro e w5 ⟨rfl, hb5, f5⟩
                    have HB5 := Lib.hid (And.intro hb5 f5)
                    clear hb5 f5 c0 x0
                    go_wp2
                    go_roundw
                    case rel => exact ⟨q + 1, by omega, by go_num, by rw [HS.out]; exact HB5.out.1, HF.out.trans HB5.out.2 (fun s hs => .inl hs)⟩
                    case measure => simp [intOf]; omega
                  · obtain rfl : q = j := by omega
                    have htk : ps.take q = o.ids.map (plOf Fs) := by rw [List.take_of_length_le (by omega), hps]
                    rw [htk] at hb
                    have e1 : ∀ g, vB.ownBlock = some g → w.heap.size ≤ g := fun g hg => Nat.le_trans hge (n3 g hg)
                    have hnO : bO ∉ vB.ownBlock.toList := own_notin hB.own hT.hd (by decide)
                    have hfin : KLayPost w k bO bN bP v Os Fs rO rN o (.returned (.int .i64 0)) wr := .inr (.inr (.inr (.inr ⟨HU.out, HX0.out, HRo.out, hall, rfl, x, bB, vB, ws2, v', hf.blk hX hn1, hb, hT.fr hf hnO (fun g hg => own_ne3 hT.own hB.own (by decide) hg), hv.imp (fun h => h) (fun ⟨g, h1, h2⟩ => ⟨g, h1, Nat.le_trans hge h2⟩), Nat.le_trans hge n1, Nat.le_trans hge n2, e1, hff.trans hf (fun s hs => .inr (by simp at hs; exact e1 s hs))⟩)))
                    have HFin := Lib.hid hfin
                    clear hX hB hT hv n1 n2 n3 hff hrd hps hpl hge hall hn1 hb hf htk e1 hnO hfin
                    go_wp2
                    go_ret
                    exact HFin.out
          · rw [decide_eq_false hroom]
            have HRo := Lib.hid hroom
            clear hroom
            go_wp2
            go_ret
            exact .inr (.inr (.inl ⟨HU.out, HX0.out, (by have := HRo.out; omega), rfl, HM.out.1.trans HG2.out (by simp)⟩))
end Go.Proofs.YtgoolkgjcmdilaaDoor
end
