/-
  Tb, part 31 of 36: the texts AskB.
-/
import Derived.Test.YtgoolkgjcmdilaaDoorTb30
section
namespace Go.Proofs.YtgoolkgjcmdilaaDoor
open Go.RowKit Flo
set_option linter.unusedVariables false
set_option linter.unusedSimpArgs false
attribute [local go_sem] Oper.semAt_some
set_option maxRecDepth 100000 in
set_option maxHeartbeats 2000000 in
theorem asks_get_no (w : World) (M N : List Nat) (k kr rO rN : Nat) (F : List Int) (V : List VO) (ob fe nu ti px py a0 a1 a2 a3 a4 : Int) (sp : Nat) (up : Option Addr) (un uc : Nat) (h : St w M N k kr rO rN F V) (hob : U32 ob) (hfe : U32 fe) (hz : posV V ob < 0) :
    Calls Tryd.prog 53 #[.pointer (some ⟨k, 0, none⟩), .pointer (some ⟨kr, 0, none⟩), .agg #[.int .i64 10, .int .u32 ob, .int .u32 fe, .int .u32 nu, .int .u32 ti, .int .i32 px, .int .i32 py, .int .u32 a0, .int .u32 a1, .int .u32 a2, .int .i32 a3, .int .i32 a4, .float .f64 sp, .slice up un uc]] w fun e w' => e = .returned (.bool true) ∧ Fr [] w w' := by
  obtain ⟨w1, hw1⟩ : ∃ w1, w.alloc (.cells #[.int .i64 10, .int .u32 ob, .int .u32 fe, .int .u32 nu, .int .u32 ti, .int .i32 px, .int .i32 py, .int .u32 a0, .int .u32 a1, .int .u32 a2, .int .i32 a3, .int .i32 a4, .float .f64 sp, .slice up un uc] 121) = w1 := ⟨_, rfl⟩
  have F1 : Fr [] w w1 := by rw [← hw1]; exact (Fr.refl _ _).alloc _
  have hb : Blk w1 w.heap.size #[.int .i64 10, .int .u32 ob, .int .u32 fe, .int .u32 nu, .int .u32 ti, .int .i32 px, .int .i32 py, .int .u32 a0, .int .u32 a1, .int .u32 a2, .int .i32 a3, .int .i32 a4, .float .f64 sp, .slice up un uc] 121 := by rw [← hw1]; exact Blk.new w _ _
  have d1 := hb.at 1 (v := .int .u32 ob) rfl
  have d0 := hb.at 0 (v := .int .i64 10) rfl
  rw [← hw1] at d0 d1
  have HR := Lib.hid (rfind w1 M kr rO rN F V ob (h.rb.grow F1))
  have HL := Lib.hid h.kb.lens
  have HS := Lib.hid (And.intro (h.grow F1) (And.intro F1 (And.intro hb hw1)))
  clear h F1 hb hw1
  go_enter Tryd.func53, Tryd.ntmps53
  go_wp2_with fail
  obtain ⟨h, F1, hb, hw1⟩ := HS.out
  rw [hw1] at d0 d1 ⊢
  clear hw1 HS
  (with_reducible refine (HR.out).mono ?_)
  rintro e w2 ⟨rfl, rfl⟩
  obtain ⟨b5, hb5⟩ : ∃ b5, b5 = w.heap.size := ⟨_, rfl⟩
  have hwb : w.heap.size ≤ b5 := by omega
  have hbl : b5 < w1.heap.size := by have := hb.lt; omega
  rw [← hb5] at d0 d1 hb ⊢
  clear hb5 HR
  have d2 := hb.at 2 (v := .int .u32 fe) rfl
  obtain ⟨z, hz2⟩ : ∃ z, z = posV V ob := ⟨_, rfl⟩
  have HZ := Lib.hid hz
  rw [← hz2] at hz ⊢
  clear hz2
  have hz0 : ¬ (0 : Int) ≤ z := by omega
  have HQ := Lib.hid (And.intro h (And.intro F1 (And.intro hb hob)))
  clear h F1 hb
  go_wp2_with fail
  (with_reducible refine (kbget_no ob HQ.out.1.kb hob HZ.out).mono ?_)
  rintro e w2 ⟨rfl, f2⟩
  have f3 := f2.alloc (.cells #[.int .u32 0, .int .u32 0, .int .u32 0, .int .i32 0, .int .i32 0, .float .f64 0, .slice none 0 0] 119)
  have e1 := (f3.blk HQ.out.2.2.1 (by simp)).at 1 (v := .int .u32 ob) rfl
  have hA := Blk.new w2 #[.int .u32 0, .int .u32 0, .int .u32 0, .int .i32 0, .int .i32 0, .float .f64 0, .slice none 0 0] 119
  have HA := Lib.hid (And.intro hA f3)
  clear f2 f3 hA d0 d1 d2
  go_wp2_with fail
  obtain ⟨a1, ha1⟩ : ∃ a1, a1 = w2.heap.size := ⟨_, rfl⟩
  obtain ⟨w3, hw3⟩ : ∃ w3, w3 = w2.alloc (.cells #[.int .u32 0, .int .u32 0, .int .u32 0, .int .i32 0, .int .i32 0, .float .f64 0, .slice none 0 0] 119) := ⟨_, rfl⟩
  rw [← ha1, ← hw3] at HA
  rw [← ha1, ← hw3]
  clear ha1 hw3 e1
  (with_reducible refine (kbget_no ob (HQ.out.1.grow HA.out.2).kb hob HZ.out).mono ?_)
  rintro e w4 ⟨rfl, f4⟩
  have F0 := f4.alloc (.cells #[.int .u32 0, .int .u32 0, .int .u32 0, .int .i32 0, .int .i32 0, .float .f64 0, .slice none 0 0] 119)
  have hA4 := F0.blk HA.out.1 (by simp)
  have hB4 := Blk.new w4 #[.int .u32 0, .int .u32 0, .int .u32 0, .int .i32 0, .int .i32 0, .float .f64 0, .slice none 0 0] 119
  have y0 := hA4.at 0 (v := .int .u32 0) rfl
  have y1 := hA4.at 1 (v := .int .u32 0) rfl
  have y2 := hA4.at 2 (v := .int .u32 0) rfl
  have y3 := hA4.at 3 (v := .int .i32 0) rfl
  have y4 := hA4.at 4 (v := .int .i32 0) rfl
  have y5 := hA4.at 5 (v := .float .f64 0) rfl
  have y6 := hA4.at 6 (v := .slice none 0 0) rfl
  have z0 := hB4.at 0 (v := .int .u32 0) rfl
  have z1 := hB4.at 1 (v := .int .u32 0) rfl
  have z2 := hB4.at 2 (v := .int .u32 0) rfl
  have z3 := hB4.at 3 (v := .int .i32 0) rfl
  have z4 := hB4.at 4 (v := .int .i32 0) rfl
  have z5 := hB4.at 5 (v := .float .f64 0) rfl
  have z6 := hB4.at 6 (v := .slice none 0 0) rfl
  have HB := Lib.hid (And.intro hB4 F0)
  clear f4 F0 hA4 hB4
  go_wp2_with fail
  clear y0 y1 y2 y3 y4 y5 y6
  have hnil : ∀ W : World, IdS W (.slice none 0 0) [] := fun W => RdF.of_own (by decide) (World.ownsRow_nil W 0 33 1) (by decide)
  (with_reducible refine (sameObject_any _ 0 0 0 0 0 0 0 none none 0 0 0 [] (FE.refl _) rfl (hnil _) (hnil _) (by decide)).mono ?_)
  rintro e w6 ⟨rfl, f6⟩
  have hB6 := f6.blk HB.out.1 (by simp)
  clear z0 z1 z2 z3 z4 z5 z6
  have z0 := hB6.at 0 (v := .int .u32 0) rfl
  have z1 := hB6.at 1 (v := .int .u32 0) rfl
  have z2 := hB6.at 2 (v := .int .u32 0) rfl
  have z3 := hB6.at 3 (v := .int .i32 0) rfl
  have z4 := hB6.at 4 (v := .int .i32 0) rfl
  have z5 := hB6.at 5 (v := .float .f64 0) rfl
  have z6 := hB6.at 6 (v := .slice none 0 0) rfl
  have HF6 := Lib.hid f6
  clear f6 hB6
  go_wp2_with fail
  (with_reducible refine (sameObject_any _ 0 0 0 0 0 0 0 none none 0 0 0 [] (FE.refl _) rfl (hnil _) (hnil _) (by decide)).mono ?_)
  rintro e w7 ⟨rfl, f7⟩
  have HF7 := Lib.hid f7
  clear f7 z0 z1 z2 z3 z4 z5 z6
  go_wp2_with fail
  refine bodyPost_ret (v := .bool true) (by simp [results, Tryd.results53, go_sem]) rfl ⟨rfl, (((HQ.out.2.1.trans HA.out.2 (by simp)).trans HB.out.2 (by simp)).trans HF6.out (by simp)).trans HF7.out (by simp)⟩
set_option maxRecDepth 100000 in
set_option maxHeartbeats 2000000 in
theorem asks_get_yes (w : World) (M N : List Nat) (k kr rO rN : Nat) (F : List Int) (V : List VO) (ob fe nu ti px py a0 a1 a2 a3 a4 : Int) (sp : Nat) (up : Option Addr) (un uc : Nat) (h : St w M N k kr rO rN F V) (hob : U32 ob) (hfe : U32 fe) (r : Nat) (o : VO) (hz : posV V ob = r) (ho : V[r]? = some o) :
    Calls Tryd.prog 53 #[.pointer (some ⟨k, 0, none⟩), .pointer (some ⟨kr, 0, none⟩), .agg #[.int .i64 10, .int .u32 ob, .int .u32 fe, .int .u32 nu, .int .u32 ti, .int .i32 px, .int .i32 py, .int .u32 a0, .int .u32 a1, .int .u32 a2, .int .i32 a3, .int .i32 a4, .float .f64 sp, .slice up un uc]] w fun e w' => e = .returned (.bool true) ∧ Fr [] w w' := by
  obtain ⟨w1, hw1⟩ : ∃ w1, w.alloc (.cells #[.int .i64 10, .int .u32 ob, .int .u32 fe, .int .u32 nu, .int .u32 ti, .int .i32 px, .int .i32 py, .int .u32 a0, .int .u32 a1, .int .u32 a2, .int .i32 a3, .int .i32 a4, .float .f64 sp, .slice up un uc] 121) = w1 := ⟨_, rfl⟩
  have F1 : Fr [] w w1 := by rw [← hw1]; exact (Fr.refl _ _).alloc _
  have hb : Blk w1 w.heap.size #[.int .i64 10, .int .u32 ob, .int .u32 fe, .int .u32 nu, .int .u32 ti, .int .i32 px, .int .i32 py, .int .u32 a0, .int .u32 a1, .int .u32 a2, .int .i32 a3, .int .i32 a4, .float .f64 sp, .slice up un uc] 121 := by rw [← hw1]; exact Blk.new w _ _
  have d1 := hb.at 1 (v := .int .u32 ob) rfl
  have d0 := hb.at 0 (v := .int .i64 10) rfl
  rw [← hw1] at d0 d1
  have HR := Lib.hid (rfind w1 M kr rO rN F V ob (h.rb.grow F1))
  have HL := Lib.hid h.kb.lens
  have HS := Lib.hid (And.intro (h.grow F1) (And.intro F1 (And.intro hb hw1)))
  clear h F1 hb hw1
  go_enter Tryd.func53, Tryd.ntmps53
  go_wp2_with fail
  obtain ⟨h, F1, hb, hw1⟩ := HS.out
  rw [hw1] at d0 d1 ⊢
  clear hw1 HS
  (with_reducible refine (HR.out).mono ?_)
  rintro e w2 ⟨rfl, rfl⟩
  obtain ⟨b5, hb5⟩ : ∃ b5, b5 = w.heap.size := ⟨_, rfl⟩
  have hwb : w.heap.size ≤ b5 := by omega
  have hbl : b5 < w1.heap.size := by have := hb.lt; omega
  rw [← hb5] at d0 d1 hb ⊢
  clear hb5 HR
  have d2 := hb.at 2 (v := .int .u32 fe) rfl
  rw [hz]
  have HZ := Lib.hid (And.intro hz ho)
  obtain ⟨vL, vF, L, hrb⟩ := h.rb
  obtain ⟨x0, hx0⟩ : ∃ x0, L[r]? = some x0 := ⟨_, List.getElem?_eq_getElem (by have := hrb.len; have := (List.getElem?_eq_some_iff.1 ho).1; omega)⟩
  obtain ⟨gL, oL, cL, rfl, -⟩ := ObS.at hrb.obs.out hx0
  obtain ⟨nL, hnL⟩ : ∃ nL, nL = L.length := ⟨_, rfl⟩
  have hrn : r < nL := by rw [hnL]; exact (List.getElem?_eq_some_iff.1 hx0).1
  obtain ⟨k0, hk0⟩ : ∃ k0, k0 = o.ids.length := ⟨_, rfl⟩
  obtain ⟨rid, rnum, rt, rpx, rpy, rs, rp, rn, rc⟩ := x0
  have hisF := hrb.is r _ o hx0 ho
  obtain ⟨i0, i1, i2, i3, i4, i5, i6⟩ := hisF.out
  dsimp only at i0 i1 i2 i3 i4 i5
  subst i0 i1 i2 i3 i4 i5
  unfold RO.v at i6
  dsimp only at i6
  obtain ⟨r1, r2, r3⟩ := i6.form
  obtain ⟨-, r4, -⟩ := Value.slice.inj r3
  rw [← hk0] at r4
  obtain rfl : rn = k0 := r4
  have HREF := Lib.hid (show ∀ W, Fr M w1 W → ObCells W gL (oL + r * 7) ⟨o.id, o.num, o.t, o.px, o.py, o.sp, rp, rn, rc⟩ ∧ IdS W (.slice rp rn rc) o.ids from fun W F => by
    obtain ⟨g', o', c', hv', hc'⟩ := ObS.at (hrb.obs W F) hx0
    obtain ⟨q1, -, -⟩ := Value.slice.inj hv'
    obtain ⟨rfl, rfl, -⟩ := Addr.mk.inj (Option.some.inj q1)
    exact ⟨hc', (hisF W F).2.2.2.2.2.2⟩)
  have hhd := hrb.hd
  unfold RfAt at hhd
  rw [← hnL] at hhd
  have HHD := Lib.hid hhd
  have hol : rn ≤ 64 := by rw [hk0]; exact HL.out.2.2.2.2 o (List.mem_of_getElem? ho)
  have HK0 := Lib.hid hk0
  have hkr : kr < w1.heap.size := hhd.lt
  clear hrb hx0 hnL hisF i6 r3 hk0 hhd
  have HQ := Lib.hid (And.intro h (And.intro F1 (And.intro hb hob)))
  clear h F1 hb hz ho
  have lr : (0 : Int) ≤ (r : Int) := by omega
  go_wp2_with fail
  (with_reducible refine (kbget_yes ob r o HQ.out.1.kb hob HZ.out.1 HZ.out.2).mono ?_)
  rintro e w2 ⟨x, rfl, hx, f2⟩
  obtain ⟨xid, xnum, xt, xpx, xpy, xs, xp, xn, xc⟩ := x
  obtain ⟨e1, e2, e3, e4, e5, hFE, hxo, hxlo⟩ := hx
  dsimp only at e1 e2 e3 e4 e5 hFE ⊢
  subst e1 e2 e3 e4 e5
  unfold RO.v at hxo hxlo
  dsimp only at hxo hxlo
  obtain ⟨q1, q2, q3⟩ := own_form hxo
  obtain ⟨-, q4, -⟩ := Value.slice.inj q3
  rw [← HK0.out] at q4
  obtain rfl : rn = xn := q4.symm
  clear q3
  rw [← HK0.out] at hxo
  have f3 := f2.alloc (.cells #[.int .u32 o.id, .int .u32 o.num, .int .u32 o.t, .int .i32 o.px, .int .i32 o.py, .float .f64 xs, .slice xp rn xc] 119)
  have e1 := (f3.blk HQ.out.2.2.1 (by simp)).at 1 (v := .int .u32 ob) rfl
  have hA := Blk.new w2 #[.int .u32 o.id, .int .u32 o.num, .int .u32 o.t, .int .i32 o.px, .int .i32 o.py, .float .f64 xs, .slice xp rn xc] 119
  have HA := Lib.hid (And.intro hA f3)
  have HX := Lib.hid (And.intro hFE (And.intro (own_fr hxo ((Fr.refl [] w2).alloc (.cells #[.int .u32 o.id, .int .u32 o.num, .int .u32 o.t, .int .i32 o.px, .int .i32 o.py, .float .f64 xs, .slice xp rn xc] 119)) (by simp)) hxlo))
  clear f2 f3 hA d0 d1 d2 hFE hxo hxlo
  go_wp2_with fail
  obtain ⟨a1, ha1⟩ : ∃ a1, a1 = w2.heap.size := ⟨_, rfl⟩
  obtain ⟨w3, hw3⟩ : ∃ w3, w3 = w2.alloc (.cells #[.int .u32 o.id, .int .u32 o.num, .int .u32 o.t, .int .i32 o.px, .int .i32 o.py, .float .f64 xs, .slice xp rn xc] 119) := ⟨_, rfl⟩
  rw [← ha1, ← hw3] at HA
  rw [← hw3] at HX
  rw [← ha1, ← hw3]
  clear ha1 hw3 e1
  (with_reducible refine (kbget_yes ob r o (HQ.out.1.grow HA.out.2).kb hob HZ.out.1 HZ.out.2).mono ?_)
  rintro e w4 ⟨x, rfl, hx, f4⟩
  obtain ⟨yid, ynum, yt, ypx, ypy, ys, yp, yn, yc⟩ := x
  obtain ⟨e1, e2, e3, e4, e5, hFE, hxo, hxlo⟩ := hx
  dsimp only at e1 e2 e3 e4 e5 hFE ⊢
  subst e1 e2 e3 e4 e5
  unfold RO.v at hxo hxlo
  dsimp only at hxo hxlo
  obtain ⟨q1, q2, q3⟩ := own_form hxo
  obtain ⟨-, q4, -⟩ := Value.slice.inj q3
  rw [← HK0.out] at q4
  obtain rfl : rn = yn := q4.symm
  clear q3
  rw [← HK0.out] at hxo
  have F0 := f4.alloc (.cells #[.int .u32 o.id, .int .u32 o.num, .int .u32 o.t, .int .i32 o.px, .int .i32 o.py, .float .f64 ys, .slice yp rn yc] 119)
  have hA4 := F0.blk HA.out.1 (by simp)
  have hB4 := Blk.new w4 #[.int .u32 o.id, .int .u32 o.num, .int .u32 o.t, .int .i32 o.px, .int .i32 o.py, .float .f64 ys, .slice yp rn yc] 119
  have HB := Lib.hid (And.intro hB4 (And.intro F0 hA4))
  have HY := Lib.hid (And.intro hFE (And.intro (own_fr hxo ((Fr.refl [] w4).alloc (.cells #[.int .u32 o.id, .int .u32 o.num, .int .u32 o.t, .int .i32 o.px, .int .i32 o.py, .float .f64 ys, .slice yp rn yc] 119)) (by simp)) hxlo))
  clear f4 F0 hA4 hB4 hFE hxo hxlo
  go_wp2_with fail
  obtain ⟨a2, ha2⟩ : ∃ a2, a2 = w4.heap.size := ⟨_, rfl⟩
  obtain ⟨w5, hw5⟩ : ∃ w5, w5 = w4.alloc (.cells #[.int .u32 o.id, .int .u32 o.num, .int .u32 o.t, .int .i32 o.px, .int .i32 o.py, .float .f64 ys, .slice yp rn yc] 119) := ⟨_, rfl⟩
  rw [← ha2, ← hw5] at HB
  rw [← hw5] at HY
  rw [← ha2, ← hw5]
  clear ha2 hw5
  have F5 := HB.out.2.1
  have hA5 := HB.out.2.2
  have F15 : Fr [] w1 w5 := HA.out.2.trans F5 (by simp)
  have FM : Fr M w1 w5 := F15.mono (by simp)
  have hhd := F15.blk HHD.out (by simp)
  have HIX := Lib.hid (show ∀ W, Fr [] w3 W → IdS W (.slice xp rn xc) o.ids from fun W F => by
    have := own_fr HX.out.2.1 F (by simp)
    rw [HK0.out] at this ⊢
    exact own_rdf this (by have := HK0.out; omega))
  refine region_grow (by kernel_rfl) (by kernel_rfl) [.is (.agg #[.int .u32 o.id, .int .u32 o.num, .int .u32 o.t, .int .i32 o.px, .int .i32 o.py, .float .f64 xs, .slice xp rn xc]), .is (.pointer (some ⟨kr, 0, none⟩)), .is (.pointer (some ⟨kr, 0, none⟩)), .is (.pointer (some ⟨kr, 2, none⟩)), .is (.slice (some ⟨gL, oL, none⟩) nL cL), .is (.int .i64 (r : Nat)), .is (.pointer (some ⟨gL, oL + r * 7, none⟩)), .is (.agg #[.int .u32 o.id, .int .u32 o.num, .int .u32 o.t, .int .i32 o.px, .int .i32 o.py, .float .f64 o.sp, .slice rp rn rc]), .is (.bool true), .is (.bool true)] 168 rfl (by kernel_rfl) [(0, 116), (1, 117), (2, 118), (3, 119), (4, 120), (5, 121), (6, 122), (7, 123), (8, 124), (9, 17)] (by kernel_rfl) ?_ ?_
  · intro q a1 W1 i hi hnq hd hG K hK
    have hlt : i < 10 := hi
    have hc : i = 0 ∨ i = 1 ∨ i = 2 ∨ i = 3 ∨ i = 4 ∨ i = 5 ∨ i = 6 ∨ i = 7 ∨ i = 8 ∨ i = 9 := by omega
    rcases hc with rfl | rfl | rfl | rfl | rfl | rfl | rfl | rfl | rfl | rfl
    · have e13 := hG.old 13 (by kernel_rfl)
      have cx0 := (hG.grown.blk hA5 (by simp)).at 0 (v := .int .u32 o.id) rfl
      have cx1 := (hG.grown.blk hA5 (by simp)).at 1 (v := .int .u32 o.num) rfl
      have cx2 := (hG.grown.blk hA5 (by simp)).at 2 (v := .int .u32 o.t) rfl
      have cx3 := (hG.grown.blk hA5 (by simp)).at 3 (v := .int .i32 o.px) rfl
      have cx4 := (hG.grown.blk hA5 (by simp)).at 4 (v := .int .i32 o.py) rfl
      have cx5 := (hG.grown.blk hA5 (by simp)).at 5 (v := .float .f64 xs) rfl
      have cx6 := (hG.grown.blk hA5 (by simp)).at 6 (v := .slice xp rn xc) rfl
      refine op_do rfl (wanted_none rfl) hK (fun K' hK' => ?_)
      unfold Oper.wp
      go_simp
      exact hK' _ _ (Fr.refl _ _) rfl
    · have e1 := hG.old 1 (by kernel_rfl)
      refine op_do rfl (wanted_none rfl) hK (fun K' hK' => ?_)
      unfold Oper.wp
      go_simp
      exact hK' _ _ (Fr.refl _ _) rfl
    · have e117 := hG.val (v := .pointer (some ⟨kr, 0, none⟩)) 1 117 (hd _ rfl ⟨1, .data⟩ (by simp) rfl) rfl rfl
      refine op_do rfl (wanted_none rfl) hK (fun K' hK' => ?_)
      unfold Oper.wp
      go_simp
      exact hK' _ _ (Fr.refl _ _) rfl
    · have e118 := hG.val (v := .pointer (some ⟨kr, 0, none⟩)) 2 118 (hd _ rfl ⟨2, .data⟩ (by simp) rfl) rfl rfl
      refine op_do rfl (wanted_none rfl) hK (fun K' hK' => ?_)
      unfold Oper.wp
      go_simp
      exact hK' _ _ (Fr.refl _ _) rfl
    · have e119 := hG.val (v := .pointer (some ⟨kr, 2, none⟩)) 3 119 (hd _ rfl ⟨3, .data⟩ (by simp) rfl) rfl rfl
      have cr := (hG.grown.blk hhd (by simp)).at 2 (v := .slice (some ⟨gL, oL, none⟩) nL cL) rfl
      refine op_do rfl (wanted_none rfl) hK (fun K' hK' => ?_)
      unfold Oper.wp
      go_simp
      exact hK' _ _ (Fr.refl _ _) rfl
    · have e7 := hG.old 7 (by kernel_rfl)
      refine op_do rfl (wanted_none rfl) hK (fun K' hK' => ?_)
      unfold Oper.wp
      go_simp
      exact hK' _ _ (Fr.refl _ _) rfl
    · have e120 := hG.val (v := .slice (some ⟨gL, oL, none⟩) nL cL) 4 120 (hd _ rfl ⟨4, .data⟩ (by simp) rfl) rfl rfl
      have e121 := hG.val (v := .int .i64 (r : Nat)) 5 121 (hd _ rfl ⟨5, .data⟩ (by simp) rfl) rfl rfl
      have l0 : (0 : Int) ≤ (r : Int) := by omega
      have l1 : (r : Int) < (nL : Int) := by omega
      refine op_do rfl (wanted_none rfl) hK (fun K' hK' => ?_)
      unfold Oper.wp
      go_simp
      exact hK' _ _ (Fr.refl _ _) rfl
    · have e122 := hG.val (v := .pointer (some ⟨gL, oL + r * 7, none⟩)) 6 122 (hd _ rfl ⟨6, .data⟩ (by simp) rfl) rfl rfl
      have hcr := (HREF.out W1 (FM.trans hG.grown (by simp))).1
      have cr0 := hcr.c0
      have cr1 := hcr.c1
      have cr2 := hcr.c2
      have cr3 := hcr.c3
      have cr4 := hcr.c4
      have cr5 := hcr.c5
      have cr6 := hcr.c6
      refine op_do rfl (wanted_none rfl) hK (fun K' hK' => ?_)
      unfold Oper.wp
      go_simp
      exact hK' _ _ (Fr.refl _ _) rfl
    · have e116 := hG.val (v := .agg #[.int .u32 o.id, .int .u32 o.num, .int .u32 o.t, .int .i32 o.px, .int .i32 o.py, .float .f64 xs, .slice xp rn xc]) 0 116 (hd _ rfl ⟨0, .data⟩ (by simp) rfl) rfl rfl
      have e123 := hG.val (v := .agg #[.int .u32 o.id, .int .u32 o.num, .int .u32 o.t, .int .i32 o.px, .int .i32 o.py, .float .f64 o.sp, .slice rp rn rc]) 7 123 (hd _ rfl ⟨7, .data⟩ (by simp) rfl) rfl rfl
      refine op_do rfl (wanted_none rfl) hK (fun K' hK' => ?_)
      unfold Oper.wp
      go_simp
      refine (sameObject_any W1 o.id o.num o.t o.px o.py xs o.sp xp rp rn xc rc o.ids HX.out.1 HK0.out (HIX.out W1 (F5.trans hG.grown (by simp))) (HREF.out W1 (FM.trans hG.grown (by simp))).2 (by omega)).mono ?_
      rintro e W2 ⟨rfl, f⟩
      exact hK' _ _ f rfl
    · have e124 := hG.val (v := .bool true) 8 124 (hd _ rfl ⟨8, .data⟩ (by simp) rfl) rfl rfl
      refine op_do rfl (wanted_none rfl) hK (fun K' hK' => ?_)
      unfold Oper.wp
      go_simp
      exact hK' _ _ (Fr.refl _ _) rfl
  · intro vs W1 f1 hv
    have r0 : vs 0 = .agg #[.int .u32 o.id, .int .u32 o.num, .int .u32 o.t, .int .i32 o.px, .int .i32 o.py, .float .f64 xs, .slice xp rn xc] := hv 0 116 (by decide) rfl
    have r1 : vs 1 = .pointer (some ⟨kr, 0, none⟩) := hv 1 117 (by decide) rfl
    have r2 : vs 2 = .pointer (some ⟨kr, 0, none⟩) := hv 2 118 (by decide) rfl
    have r3 : vs 3 = .pointer (some ⟨kr, 2, none⟩) := hv 3 119 (by decide) rfl
    have r4 : vs 4 = .slice (some ⟨gL, oL, none⟩) nL cL := hv 4 120 (by decide) rfl
    have r5 : vs 5 = .int .i64 (r : Nat) := hv 5 121 (by decide) rfl
    have r6 : vs 6 = .pointer (some ⟨gL, oL + r * 7, none⟩) := hv 6 122 (by decide) rfl
    have r7 : vs 7 = .agg #[.int .u32 o.id, .int .u32 o.num, .int .u32 o.t, .int .i32 o.px, .int .i32 o.py, .float .f64 o.sp, .slice rp rn rc] := hv 7 123 (by decide) rfl
    have r8 : vs 8 = .bool true := hv 8 124 (by decide) rfl
    have r9 : vs 9 = .bool true := hv 9 17 (by decide) rfl
    simp only [lay, List.foldl_cons, List.foldl_nil, r0, r1, r2, r3, r4, r5, r6, r7, r8, r9]
    simp only [List.setIfInBounds_toArray, List.set_cons_zero, List.set_cons_succ]
    clear hv r0 r1 r2 r3 r4 r5 r6 r7 r8 r9
    have hA6 := f1.blk hA5 (by simp)
    have hO6 : W1.ownsRow 0 33 1 (.slice xp rn xc) rn (u32v o.ids) := own_fr HX.out.2.1 (F5.trans f1 (by simp)) (by simp)
    have HA6 := Lib.hid (And.intro hA6 (And.intro hO6 (And.intro f1 F15)))
    have y6 := hA6.at 6 (v := .slice xp rn xc) rfl
    clear hA5 hA6 hO6 f1 FM hhd F15 F5
    go_wp2_with fail
    clear y6
    go_loopw [18] (fun i wr => ∃ jj : Nat, i = .int .i64 jj ∧ jj ≤ rn ∧ Spoil W1 wr (.slice xp rn xc)) (fun i _ => rn - (intOf i).toNat)
    case atStart => exact ⟨0, rfl, Nat.zero_le _, Spoil.start HA6.out.2.1⟩
    case round =>
      obtain ⟨jj, rfl, hjj, hsp⟩ := hrel
      obtain ⟨wi, hwi⟩ : ∃ wi : World, wi = wr := ⟨_, rfl⟩
      rw [← hwi] at hsp ⊢
      clear hwi
      have y6 := (hsp.fr.blk HA6.out.1 (own_notin HA6.out.2.1 HA6.out.1 (by decide))).at 6 (v := .slice xp rn xc) rfl
      by_cases hlt : jj < rn
      · obtain ⟨gx, hpx, ⟨u0, z0⟩, z1, hnext⟩ := Spoil.at HA6.out.2.1 hsp hlt
        have HW := Lib.hid (hnext (.int .u32 777))
        have l0 : (0 : Int) ≤ (jj : Int) := by omega
        have l1 : (jj : Int) < (rn : Int) := by omega
        rw [hpx]
        rw [hpx] at y6
        clear hsp hnext
        go_wp2_with fail
        refine ⟨⟨jj + 1, by go_num, by omega, ?_⟩, by simp [intOf]; omega⟩
        rw [← hpx]
        exact HW.out
      · obtain rfl : rn = jj := by omega
        have HXL := Lib.hid (show ∀ g, (Value.slice xp rn xc).ownBlock = some g → w1.heap.size ≤ g from HX.out.2.2)
        have F6 : Fr (Value.slice xp rn xc).ownBlock.toList w1 wi := ((HA6.out.2.2.2.trans HA6.out.2.2.1 (by simp)).mono (by simp)).trans hsp.fr (fun s hs => .inl hs)
        have FM : Fr M w1 wi := F6.mono (fun s hs => .inr (HXL.out s (by simpa using hs)))
        have hhd : Blk wi kr _ 127 := F6.blk HHD.out (fun hm => by have := HXL.out kr (by simpa using hm); omega)
        have hyx : ∀ g, (Value.slice yp rn yc).ownBlock = some g → g ∉ (Value.slice xp rn xc).ownBlock.toList := fun g hg hm => by
          have h8 := HY.out.2.2 g hg
          have h9 := own_lt HX.out.2.1 (g := g) (by simpa using hm)
          omega
        have hIY : IdS wi (.slice yp rn yc) o.ids := by
          have := own_fr (own_fr HY.out.2.1 HA6.out.2.2.1 (by simp)) hsp.fr hyx
          rw [HK0.out] at this ⊢
          exact own_rdf this (by have := HK0.out; omega)
        have hB5 : Blk wi a2 _ 119 := hsp.fr.blk (HA6.out.2.2.1.blk HB.out.1 (by simp)) (own_notin HA6.out.2.1 (HA6.out.2.2.1.blk HB.out.1 (by simp)) (by decide))
        clear hsp
        go_wp2_with fail
        refine region_grow (by kernel_rfl) (by kernel_rfl) [.is (.bool true), .is (.bool true), .is (.agg #[.int .u32 o.id, .int .u32 o.num, .int .u32 o.t, .int .i32 o.px, .int .i32 o.py, .float .f64 ys, .slice yp rn yc]), .is (.pointer (some ⟨kr, 0, none⟩)), .is (.pointer (some ⟨kr, 0, none⟩)), .is (.pointer (some ⟨kr, 2, none⟩)), .is (.slice (some ⟨gL, oL, none⟩) nL cL), .is (.int .i64 (r : Nat)), .is (.pointer (some ⟨gL, oL + r * 7, none⟩)), .is (.agg #[.int .u32 o.id, .int .u32 o.num, .int .u32 o.t, .int .i32 o.px, .int .i32 o.py, .float .f64 o.sp, .slice rp rn rc]), .is (.bool true), .is (.bool true), .is (.bool true)] 168 rfl (by kernel_rfl) [(0, 136), (1, 137), (2, 138), (3, 139), (4, 140), (5, 141), (6, 142), (7, 143), (8, 144), (9, 145), (10, 146), (11, 147), (12, 6)] (by kernel_rfl) ?_ ?_
        · intro q a1 W1 i hi hnq hd hG K hK
          have hlt : i < 13 := hi
          have hc : i = 0 ∨ i = 1 ∨ i = 2 ∨ i = 3 ∨ i = 4 ∨ i = 5 ∨ i = 6 ∨ i = 7 ∨ i = 8 ∨ i = 9 ∨ i = 10 ∨ i = 11 ∨ i = 12 := by omega
          rcases hc with rfl | rfl | rfl | rfl | rfl | rfl | rfl | rfl | rfl | rfl | rfl | rfl | rfl
          · have e17 := hG.old 17 (by kernel_rfl)
            refine op_do rfl (wanted_none rfl) hK (fun K' hK' => ?_)
            unfold Oper.wp
            go_simp
            exact hK' _ _ (Fr.refl _ _) rfl
          · have e136 := hG.val (v := .bool true) 0 136 (hd _ rfl ⟨0, .data⟩ (by simp) rfl) rfl rfl
            refine op_do rfl (wanted_none rfl) hK (fun K' hK' => ?_)
            unfold Oper.wp
            go_simp
            exact hK' _ _ (Fr.refl _ _) rfl
          · have e15 := hG.old 15 (by kernel_rfl)
            have eg := hG.val (v := .bool true) 1 137 (hd _ rfl ⟨1, .guard⟩ (by simp) rfl) rfl rfl
            have cx0 := (hG.grown.blk hB5 (by simp)).at 0 (v := .int .u32 o.id) rfl
            have cx1 := (hG.grown.blk hB5 (by simp)).at 1 (v := .int .u32 o.num) rfl
            have cx2 := (hG.grown.blk hB5 (by simp)).at 2 (v := .int .u32 o.t) rfl
            have cx3 := (hG.grown.blk hB5 (by simp)).at 3 (v := .int .i32 o.px) rfl
            have cx4 := (hG.grown.blk hB5 (by simp)).at 4 (v := .int .i32 o.py) rfl
            have cx5 := (hG.grown.blk hB5 (by simp)).at 5 (v := .float .f64 ys) rfl
            have cx6 := (hG.grown.blk hB5 (by simp)).at 6 (v := .slice yp rn yc) rfl
            refine op_do rfl (by simp [Region.wanted, yielded, eg]) hK (fun K' hK' => ?_)
            unfold Oper.wp
            go_simp
            exact hK' _ _ (Fr.refl _ _) rfl
          · have e1 := hG.old 1 (by kernel_rfl)
            have eg := hG.val (v := .bool true) 1 137 (hd _ rfl ⟨1, .guard⟩ (by simp) rfl) rfl rfl
            refine op_do rfl (by simp [Region.wanted, yielded, eg]) hK (fun K' hK' => ?_)
            unfold Oper.wp
            go_simp
            exact hK' _ _ (Fr.refl _ _) rfl
          · have e139 := hG.val (v := .pointer (some ⟨kr, 0, none⟩)) 3 139 (hd _ rfl ⟨3, .data⟩ (by simp) rfl) rfl rfl
            have eg := hG.val (v := .bool true) 1 137 (hd _ rfl ⟨1, .guard⟩ (by simp) rfl) rfl rfl
            refine op_do rfl (by simp [Region.wanted, yielded, eg]) hK (fun K' hK' => ?_)
            unfold Oper.wp
            go_simp
            exact hK' _ _ (Fr.refl _ _) rfl
          · have e140 := hG.val (v := .pointer (some ⟨kr, 0, none⟩)) 4 140 (hd _ rfl ⟨4, .data⟩ (by simp) rfl) rfl rfl
            have eg := hG.val (v := .bool true) 1 137 (hd _ rfl ⟨1, .guard⟩ (by simp) rfl) rfl rfl
            refine op_do rfl (by simp [Region.wanted, yielded, eg]) hK (fun K' hK' => ?_)
            unfold Oper.wp
            go_simp
            exact hK' _ _ (Fr.refl _ _) rfl
          · have e141 := hG.val (v := .pointer (some ⟨kr, 2, none⟩)) 5 141 (hd _ rfl ⟨5, .data⟩ (by simp) rfl) rfl rfl
            have eg := hG.val (v := .bool true) 1 137 (hd _ rfl ⟨1, .guard⟩ (by simp) rfl) rfl rfl
            have cr := (hG.grown.blk hhd (by simp)).at 2 (v := .slice (some ⟨gL, oL, none⟩) nL cL) rfl
            refine op_do rfl (by simp [Region.wanted, yielded, eg]) hK (fun K' hK' => ?_)
            unfold Oper.wp
            go_simp
            exact hK' _ _ (Fr.refl _ _) rfl
          · have e7 := hG.old 7 (by kernel_rfl)
            have eg := hG.val (v := .bool true) 1 137 (hd _ rfl ⟨1, .guard⟩ (by simp) rfl) rfl rfl
            refine op_do rfl (by simp [Region.wanted, yielded, eg]) hK (fun K' hK' => ?_)
            unfold Oper.wp
            go_simp
            exact hK' _ _ (Fr.refl _ _) rfl
          · have e142 := hG.val (v := .slice (some ⟨gL, oL, none⟩) nL cL) 6 142 (hd _ rfl ⟨6, .data⟩ (by simp) rfl) rfl rfl
            have e143 := hG.val (v := .int .i64 (r : Nat)) 7 143 (hd _ rfl ⟨7, .data⟩ (by simp) rfl) rfl rfl
            have eg := hG.val (v := .bool true) 1 137 (hd _ rfl ⟨1, .guard⟩ (by simp) rfl) rfl rfl
            have l0 : (0 : Int) ≤ (r : Int) := by omega
            have l1 : (r : Int) < (nL : Int) := by omega
            refine op_do rfl (by simp [Region.wanted, yielded, eg]) hK (fun K' hK' => ?_)
            unfold Oper.wp
            go_simp
            exact hK' _ _ (Fr.refl _ _) rfl
          · have e144 := hG.val (v := .pointer (some ⟨gL, oL + r * 7, none⟩)) 8 144 (hd _ rfl ⟨8, .data⟩ (by simp) rfl) rfl rfl
            have eg := hG.val (v := .bool true) 1 137 (hd _ rfl ⟨1, .guard⟩ (by simp) rfl) rfl rfl
            have hcr := (HREF.out W1 (FM.trans hG.grown (by simp))).1
            have cr0 := hcr.c0
            have cr1 := hcr.c1
            have cr2 := hcr.c2
            have cr3 := hcr.c3
            have cr4 := hcr.c4
            have cr5 := hcr.c5
            have cr6 := hcr.c6
            refine op_do rfl (by simp [Region.wanted, yielded, eg]) hK (fun K' hK' => ?_)
            unfold Oper.wp
            go_simp
            exact hK' _ _ (Fr.refl _ _) rfl
          · have e138 := hG.val (v := .agg #[.int .u32 o.id, .int .u32 o.num, .int .u32 o.t, .int .i32 o.px, .int .i32 o.py, .float .f64 ys, .slice yp rn yc]) 2 138 (hd _ rfl ⟨2, .data⟩ (by simp) rfl) rfl rfl
            have e145 := hG.val (v := .agg #[.int .u32 o.id, .int .u32 o.num, .int .u32 o.t, .int .i32 o.px, .int .i32 o.py, .float .f64 o.sp, .slice rp rn rc]) 9 145 (hd _ rfl ⟨9, .data⟩ (by simp) rfl) rfl rfl
            have eg := hG.val (v := .bool true) 1 137 (hd _ rfl ⟨1, .guard⟩ (by simp) rfl) rfl rfl
            refine op_do rfl (by simp [Region.wanted, yielded, eg]) hK (fun K' hK' => ?_)
            unfold Oper.wp
            go_simp
            refine (sameObject_any W1 o.id o.num o.t o.px o.py ys o.sp yp rp rn yc rc o.ids HY.out.1 HK0.out (hIY.grow hG.grown) (HREF.out W1 (FM.trans hG.grown (by simp))).2 (by omega)).mono ?_
            rintro e W2 ⟨rfl, f⟩
            exact hK' _ _ f rfl
          · have e137 := hG.val (v := .bool true) 1 137 (hd _ rfl ⟨1, .data⟩ (by simp) rfl) rfl rfl
            have e146 := hG.val (v := .bool true) 10 146 (hd _ rfl ⟨10, .data⟩ (by simp) rfl) rfl rfl
            refine op_do rfl (wanted_none rfl) hK (fun K' hK' => ?_)
            unfold Oper.wp
            go_simp
            exact hK' _ _ (Fr.refl _ _) rfl
          · have e147 := hG.val (v := .bool true) 11 147 (hd _ rfl ⟨11, .data⟩ (by simp) rfl) rfl rfl
            refine op_do rfl (wanted_none rfl) hK (fun K' hK' => ?_)
            unfold Oper.wp
            go_simp
            exact hK' _ _ (Fr.refl _ _) rfl
        · intro vs W1 f1 hv
          have r0 : vs 0 = .bool true := hv 0 136 (by decide) rfl
          have r1 : vs 1 = .bool true := hv 1 137 (by decide) rfl
          have r2 : vs 2 = .agg #[.int .u32 o.id, .int .u32 o.num, .int .u32 o.t, .int .i32 o.px, .int .i32 o.py, .float .f64 ys, .slice yp rn yc] := hv 2 138 (by decide) rfl
          have r3 : vs 3 = .pointer (some ⟨kr, 0, none⟩) := hv 3 139 (by decide) rfl
          have r4 : vs 4 = .pointer (some ⟨kr, 0, none⟩) := hv 4 140 (by decide) rfl
          have r5 : vs 5 = .pointer (some ⟨kr, 2, none⟩) := hv 5 141 (by decide) rfl
          have r6 : vs 6 = .slice (some ⟨gL, oL, none⟩) nL cL := hv 6 142 (by decide) rfl
          have r7 : vs 7 = .int .i64 (r : Nat) := hv 7 143 (by decide) rfl
          have r8 : vs 8 = .pointer (some ⟨gL, oL + r * 7, none⟩) := hv 8 144 (by decide) rfl
          have r9 : vs 9 = .agg #[.int .u32 o.id, .int .u32 o.num, .int .u32 o.t, .int .i32 o.px, .int .i32 o.py, .float .f64 o.sp, .slice rp rn rc] := hv 9 145 (by decide) rfl
          have r10 : vs 10 = .bool true := hv 10 146 (by decide) rfl
          have r11 : vs 11 = .bool true := hv 11 147 (by decide) rfl
          have r12 : vs 12 = .bool true := hv 12 6 (by decide) rfl
          simp only [lay, List.foldl_cons, List.foldl_nil, r0, r1, r2, r3, r4, r5, r6, r7, r8, r9, r10, r11, r12]
          simp only [List.setIfInBounds_toArray, List.set_cons_zero, List.set_cons_succ]
          clear hv r0 r1 r2 r3 r4 r5 r6 r7 r8 r9 r10 r11 r12
          go_wp2_with fail
          refine bodyPost_ret (v := .bool true) (by simp [results, Tryd.results53, go_sem]) rfl ⟨rfl, (HQ.out.2.1.trans F6 (fun s hs => .inr (Nat.le_trans HQ.out.2.1.size (HXL.out s (by simpa using hs))))).trans f1 (by simp)⟩
set_option maxRecDepth 100000 in
set_option maxHeartbeats 2000000 in
theorem asks_all (w : World) (M N : List Nat) (k kr rO rN : Nat) (F : List Int) (V : List VO) (ob fe nu ti px py a0 a1 a2 a3 a4 : Int) (sp : Nat) (up : Option Addr) (un uc : Nat) (h : St w M N k kr rO rN F V) (hob : U32 ob) (hfe : U32 fe) :
    Calls Tryd.prog 53 #[.pointer (some ⟨k, 0, none⟩), .pointer (some ⟨kr, 0, none⟩), .agg #[.int .i64 11, .int .u32 ob, .int .u32 fe, .int .u32 nu, .int .u32 ti, .int .i32 px, .int .i32 py, .int .u32 a0, .int .u32 a1, .int .u32 a2, .int .i32 a3, .int .i32 a4, .float .f64 sp, .slice up un uc]] w fun e w' => e = .returned (.bool true) ∧ Fr [] w w' := by
  obtain ⟨w1, hw1⟩ : ∃ w1, w.alloc (.cells #[.int .i64 11, .int .u32 ob, .int .u32 fe, .int .u32 nu, .int .u32 ti, .int .i32 px, .int .i32 py, .int .u32 a0, .int .u32 a1, .int .u32 a2, .int .i32 a3, .int .i32 a4, .float .f64 sp, .slice up un uc] 121) = w1 := ⟨_, rfl⟩
  have F1 : Fr [] w w1 := by rw [← hw1]; exact (Fr.refl _ _).alloc _
  have hb : Blk w1 w.heap.size #[.int .i64 11, .int .u32 ob, .int .u32 fe, .int .u32 nu, .int .u32 ti, .int .i32 px, .int .i32 py, .int .u32 a0, .int .u32 a1, .int .u32 a2, .int .i32 a3, .int .i32 a4, .float .f64 sp, .slice up un uc] 121 := by rw [← hw1]; exact Blk.new w _ _
  have d1 := hb.at 1 (v := .int .u32 ob) rfl
  have d0 := hb.at 0 (v := .int .i64 11) rfl
  rw [← hw1] at d0 d1
  have HR := Lib.hid (rfind w1 M kr rO rN F V ob (h.rb.grow F1))
  have HL := Lib.hid h.kb.lens
  have HS := Lib.hid (And.intro (h.grow F1) (And.intro F1 (And.intro hb hw1)))
  clear h F1 hb hw1
  go_enter Tryd.func53, Tryd.ntmps53
  go_wp2_with fail
  obtain ⟨h, F1, hb, hw1⟩ := HS.out
  rw [hw1] at d0 d1 ⊢
  clear hw1 HS
  (with_reducible refine (HR.out).mono ?_)
  rintro e w2 ⟨rfl, rfl⟩
  obtain ⟨b5, hb5⟩ : ∃ b5, b5 = w.heap.size := ⟨_, rfl⟩
  have hwb : w.heap.size ≤ b5 := by omega
  have hbl : b5 < w1.heap.size := by have := hb.lt; omega
  rw [← hb5] at d0 d1 hb ⊢
  clear hb5 HR
  have d2 := hb.at 2 (v := .int .u32 fe) rfl
  obtain ⟨vL, vF, L, hrb⟩ := h.rb
  obtain ⟨pL, cL, rfl⟩ := hrb.obs.out.form
  obtain ⟨nL, hnL⟩ : ∃ nL, nL = L.length := ⟨_, rfl⟩
  have HN := Lib.hid (And.intro hnL hrb.len)
  have hhd := hrb.hd
  unfold RfAt at hhd
  rw [← hnL] at hhd
  have HHD := Lib.hid hhd
  have HRB := Lib.hid (show ∀ W, Fr M w1 W → ObS W (.slice pL nL cL) L ∧ ∀ (k : Nat) (x : RO) (o : VO), L[k]? = some x → V[k]? = some o → Is W x o from fun W F => ⟨by rw [hnL]; exact hrb.obs W F, fun k x o hx ho => hrb.is k x o hx ho W F⟩)
  have HKB := Lib.hid h.kb
  have HF1 := Lib.hid F1
  clear hrb hnL hhd h F1 hb
  go_wp2_with fail
  refine region_grow (by kernel_rfl) (by kernel_rfl) [.is (.pointer (some ⟨k, 0, none⟩)), .allv V, .is (.pointer (some ⟨kr, 0, none⟩)), .is (.pointer (some ⟨kr, 0, none⟩)), .is (.pointer (some ⟨kr, 2, none⟩)), .is (.slice pL nL cL), .keptv 0 nL cL pL V, .is (.bool true), .is (.bool true), .is (.pointer (some ⟨k, 0, none⟩)), .is (.int .i64 (nL : Nat)), .is (.pointer (some ⟨kr, 0, none⟩)), .is (.pointer (some ⟨kr, 0, none⟩)), .is (.pointer (some ⟨kr, 2, none⟩)), .is (.slice pL nL cL), .is (.int .i64 (nL : Nat)), .is (.bool true), .is (.bool true), .is (.bool true)] 168 rfl (by kernel_rfl) [(0, 150), (1, 151), (2, 152), (3, 153), (4, 154), (5, 155), (6, 156), (7, 157), (8, 158), (9, 159), (10, 160), (11, 161), (12, 162), (13, 163), (14, 164), (15, 165), (16, 166), (17, 167), (18, 6)] (by kernel_rfl) ?_ ?_
  · intro q a1 W1 i hi hnq hd hG K hK
    have hlt : i < 19 := hi
    have hc : i = 0 ∨ i = 1 ∨ i = 2 ∨ i = 3 ∨ i = 4 ∨ i = 5 ∨ i = 6 ∨ i = 7 ∨ i = 8 ∨ i = 9 ∨ i = 10 ∨ i = 11 ∨ i = 12 ∨ i = 13 ∨ i = 14 ∨ i = 15 ∨ i = 16 ∨ i = 17 ∨ i = 18 := by omega
    rcases hc with rfl | rfl | rfl | rfl | rfl | rfl | rfl | rfl | rfl | rfl | rfl | rfl | rfl | rfl | rfl | rfl | rfl | rfl | rfl
    · have e0 := hG.old 0 (by kernel_rfl)
      refine op_do rfl (wanted_none rfl) hK (fun K' hK' => ?_)
      unfold Oper.wp
      go_simp
      exact hK' _ _ (Fr.refl _ _) rfl
    · have e150 := hG.val (v := .pointer (some ⟨k, 0, none⟩)) 0 150 (hd _ rfl ⟨0, .data⟩ (by simp) rfl) rfl rfl
      refine op_do rfl (wanted_none rfl) hK (fun K' hK' => ?_)
      unfold Oper.wp
      go_simp
      refine (kball (HKB.out.grow hG.grown)).mono ?_
      rintro e W2 hA
      obtain ⟨bl, v, L2, rfl, hh, f, -⟩ := hA.held
      exact hK' _ _ f ⟨bl, v, L2, rfl, hh⟩
    · have e1 := hG.old 1 (by kernel_rfl)
      refine op_do rfl (wanted_none rfl) hK (fun K' hK' => ?_)
      unfold Oper.wp
      go_simp
      exact hK' _ _ (Fr.refl _ _) rfl
    · have e152 := hG.val (v := .pointer (some ⟨kr, 0, none⟩)) 2 152 (hd _ rfl ⟨2, .data⟩ (by simp) rfl) rfl rfl
      refine op_do rfl (wanted_none rfl) hK (fun K' hK' => ?_)
      unfold Oper.wp
      go_simp
      exact hK' _ _ (Fr.refl _ _) rfl
    · have e153 := hG.val (v := .pointer (some ⟨kr, 0, none⟩)) 3 153 (hd _ rfl ⟨3, .data⟩ (by simp) rfl) rfl rfl
      refine op_do rfl (wanted_none rfl) hK (fun K' hK' => ?_)
      unfold Oper.wp
      go_simp
      exact hK' _ _ (Fr.refl _ _) rfl
    · have e154 := hG.val (v := .pointer (some ⟨kr, 2, none⟩)) 4 154 (hd _ rfl ⟨4, .data⟩ (by simp) rfl) rfl rfl
      have cr := (hG.grown.blk HHD.out (by simp)).at 2 (v := .slice pL nL cL) rfl
      refine op_do rfl (wanted_none rfl) hK (fun K' hK' => ?_)
      unfold Oper.wp
      go_simp
      exact hK' _ _ (Fr.refl _ _) rfl
    · obtain ⟨u1, e151, s1⟩ := hG.get 1 151 (hd _ rfl ⟨1, .data⟩ (by simp) rfl) rfl
      have e155 := hG.val (v := .slice pL nL cL) 5 155 (hd _ rfl ⟨5, .data⟩ (by simp) rfl) rfl rfl
      obtain ⟨bl, v, L2, rfl, hh⟩ := s1
      refine op_do rfl (wanted_none rfl) hK (fun K' hK' => ?_)
      unfold Oper.wp
      go_simp
      exact hK' _ _ (Fr.refl _ _) ⟨bl, v, L2, rfl, hh⟩
    · obtain ⟨u6, e156, s6⟩ := hG.get 6 156 (hd _ rfl ⟨6, .data⟩ (by simp) rfl) rfl
      obtain ⟨bl, v, L2, rfl, hh⟩ := s6
      refine op_do rfl (wanted_none rfl) hK (fun K' hK' => ?_)
      unfold Oper.wp
      go_simp
      refine (tells_any W1 bl v L2 V pL nL cL L hh (by have := hh.al.len; have := HL.out; omega) (fun o ho => by have := HL.out.2.2.2.2 o ho; omega) ((HRB.out W1 (hG.grown.mono (by simp))).1) HN.out.1 HN.out.2 (HRB.out W1 (hG.grown.mono (by simp))).2).mono ?_
      rintro e W2 ⟨rfl, f⟩
      exact hK' _ _ f rfl
    · have e157 := hG.val (v := .bool true) 7 157 (hd _ rfl ⟨7, .data⟩ (by simp) rfl) rfl rfl
      refine op_do rfl (wanted_none rfl) hK (fun K' hK' => ?_)
      unfold Oper.wp
      go_simp
      exact hK' _ _ (Fr.refl _ _) rfl
    · have e0 := hG.old 0 (by kernel_rfl)
      have eg := hG.val (v := .bool true) 8 158 (hd _ rfl ⟨8, .guard⟩ (by simp) rfl) rfl rfl
      refine op_do rfl (by simp [Region.wanted, yielded, eg]) hK (fun K' hK' => ?_)
      unfold Oper.wp
      go_simp
      exact hK' _ _ (Fr.refl _ _) rfl
    · have e159 := hG.val (v := .pointer (some ⟨k, 0, none⟩)) 9 159 (hd _ rfl ⟨9, .data⟩ (by simp) rfl) rfl rfl
      have eg := hG.val (v := .bool true) 8 158 (hd _ rfl ⟨8, .guard⟩ (by simp) rfl) rfl rfl
      refine op_do rfl (by simp [Region.wanted, yielded, eg]) hK (fun K' hK' => ?_)
      unfold Oper.wp
      go_simp
      refine (kblen (HKB.out.grow hG.grown)).mono ?_
      rintro e W2 ⟨rfl, rfl⟩
      exact hK' _ _ (Fr.refl _ _) (by rw [← HN.out.2, ← HN.out.1]; rfl)
    · have e1 := hG.old 1 (by kernel_rfl)
      have eg := hG.val (v := .bool true) 8 158 (hd _ rfl ⟨8, .guard⟩ (by simp) rfl) rfl rfl
      refine op_do rfl (by simp [Region.wanted, yielded, eg]) hK (fun K' hK' => ?_)
      unfold Oper.wp
      go_simp
      exact hK' _ _ (Fr.refl _ _) rfl
    · have e161 := hG.val (v := .pointer (some ⟨kr, 0, none⟩)) 11 161 (hd _ rfl ⟨11, .data⟩ (by simp) rfl) rfl rfl
      have eg := hG.val (v := .bool true) 8 158 (hd _ rfl ⟨8, .guard⟩ (by simp) rfl) rfl rfl
      refine op_do rfl (by simp [Region.wanted, yielded, eg]) hK (fun K' hK' => ?_)
      unfold Oper.wp
      go_simp
      exact hK' _ _ (Fr.refl _ _) rfl
    · have e162 := hG.val (v := .pointer (some ⟨kr, 0, none⟩)) 12 162 (hd _ rfl ⟨12, .data⟩ (by simp) rfl) rfl rfl
      have eg := hG.val (v := .bool true) 8 158 (hd _ rfl ⟨8, .guard⟩ (by simp) rfl) rfl rfl
      refine op_do rfl (by simp [Region.wanted, yielded, eg]) hK (fun K' hK' => ?_)
      unfold Oper.wp
      go_simp
      exact hK' _ _ (Fr.refl _ _) rfl
    · have e163 := hG.val (v := .pointer (some ⟨kr, 2, none⟩)) 13 163 (hd _ rfl ⟨13, .data⟩ (by simp) rfl) rfl rfl
      have eg := hG.val (v := .bool true) 8 158 (hd _ rfl ⟨8, .guard⟩ (by simp) rfl) rfl rfl
      have cr := (hG.grown.blk HHD.out (by simp)).at 2 (v := .slice pL nL cL) rfl
      refine op_do rfl (by simp [Region.wanted, yielded, eg]) hK (fun K' hK' => ?_)
      unfold Oper.wp
      go_simp
      exact hK' _ _ (Fr.refl _ _) rfl
    · have e164 := hG.val (v := .slice pL nL cL) 14 164 (hd _ rfl ⟨14, .data⟩ (by simp) rfl) rfl rfl
      have eg := hG.val (v := .bool true) 8 158 (hd _ rfl ⟨8, .guard⟩ (by simp) rfl) rfl rfl
      refine op_do rfl (by simp [Region.wanted, yielded, eg]) hK (fun K' hK' => ?_)
      unfold Oper.wp
      go_simp
      exact hK' _ _ (Fr.refl _ _) rfl
    · have e160 := hG.val (v := .int .i64 (nL : Nat)) 10 160 (hd _ rfl ⟨10, .data⟩ (by simp) rfl) rfl rfl
      have e165 := hG.val (v := .int .i64 (nL : Nat)) 15 165 (hd _ rfl ⟨15, .data⟩ (by simp) rfl) rfl rfl
      have eg := hG.val (v := .bool true) 8 158 (hd _ rfl ⟨8, .guard⟩ (by simp) rfl) rfl rfl
      refine op_do rfl (by simp [Region.wanted, yielded, eg]) hK (fun K' hK' => ?_)
      unfold Oper.wp
      go_simp
      exact hK' _ _ (Fr.refl _ _) rfl
    · have e158 := hG.val (v := .bool true) 8 158 (hd _ rfl ⟨8, .data⟩ (by simp) rfl) rfl rfl
      have e166 := hG.val (v := .bool true) 16 166 (hd _ rfl ⟨16, .data⟩ (by simp) rfl) rfl rfl
      refine op_do rfl (wanted_none rfl) hK (fun K' hK' => ?_)
      unfold Oper.wp
      go_simp
      exact hK' _ _ (Fr.refl _ _) rfl
    · have e167 := hG.val (v := .bool true) 17 167 (hd _ rfl ⟨17, .data⟩ (by simp) rfl) rfl rfl
      refine op_do rfl (wanted_none rfl) hK (fun K' hK' => ?_)
      unfold Oper.wp
      go_simp
      exact hK' _ _ (Fr.refl _ _) rfl
  · intro vs W1 f1 hv
    have r0 : vs 0 = .pointer (some ⟨k, 0, none⟩) := hv 0 150 (by decide) rfl
    have r1 := hv 1 151 (by decide) rfl
    have r2 : vs 2 = .pointer (some ⟨kr, 0, none⟩) := hv 2 152 (by decide) rfl
    have r3 : vs 3 = .pointer (some ⟨kr, 0, none⟩) := hv 3 153 (by decide) rfl
    have r4 : vs 4 = .pointer (some ⟨kr, 2, none⟩) := hv 4 154 (by decide) rfl
    have r5 : vs 5 = .slice pL nL cL := hv 5 155 (by decide) rfl
    have r6 := hv 6 156 (by decide) rfl
    have r7 : vs 7 = .bool true := hv 7 157 (by decide) rfl
    have r8 : vs 8 = .bool true := hv 8 158 (by decide) rfl
    have r9 : vs 9 = .pointer (some ⟨k, 0, none⟩) := hv 9 159 (by decide) rfl
    have r10 : vs 10 = .int .i64 (nL : Nat) := hv 10 160 (by decide) rfl
    have r11 : vs 11 = .pointer (some ⟨kr, 0, none⟩) := hv 11 161 (by decide) rfl
    have r12 : vs 12 = .pointer (some ⟨kr, 0, none⟩) := hv 12 162 (by decide) rfl
    have r13 : vs 13 = .pointer (some ⟨kr, 2, none⟩) := hv 13 163 (by decide) rfl
    have r14 : vs 14 = .slice pL nL cL := hv 14 164 (by decide) rfl
    have r15 : vs 15 = .int .i64 (nL : Nat) := hv 15 165 (by decide) rfl
    have r16 : vs 16 = .bool true := hv 16 166 (by decide) rfl
    have r17 : vs 17 = .bool true := hv 17 167 (by decide) rfl
    have r18 : vs 18 = .bool true := hv 18 6 (by decide) rfl
    simp only [lay, List.foldl_cons, List.foldl_nil, r0, r2, r3, r4, r5, r7, r8, r9, r10, r11, r12, r13, r14, r15, r16, r17, r18]
    simp only [List.setIfInBounds_toArray, List.set_cons_zero, List.set_cons_succ]
    clear hv r0 r2 r3 r4 r5 r7 r8 r9 r10 r11 r12 r13 r14 r15 r16 r17 r18
    generalize vs 1 = x1 at *
    generalize vs 6 = x6 at *
    go_wp2_with fail
    refine bodyPost_ret (v := .bool true) (by simp [results, Tryd.results53, go_sem]) rfl ⟨rfl, HF1.out.trans f1 (by simp)⟩
end Go.Proofs.YtgoolkgjcmdilaaDoor
end
