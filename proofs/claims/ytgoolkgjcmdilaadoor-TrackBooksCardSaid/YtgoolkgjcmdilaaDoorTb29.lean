/-
  Tb, part 29 of 36: the texts KeC.
-/
import Derived.LoopNIn
import Derived.LoopIn
import Derived.Test.YtgoolkgjcmdilaaDoorTb28
section
namespace Go.Proofs.YtgoolkgjcmdilaaDoor
open Go.RowKit Flo
set_option linter.unusedVariables false
set_option linter.unusedSimpArgs false
attribute [local go_sem] Oper.semAt_some
/-- The mark that a range over a function leaves. -/
def mkD (D : Nat) : Deferred := { target := .collected D, args := #[] }
theorem leavesM_all {F : Fence} {n : Nat} {P : Program} {fn : Func} {tmps : Array Value} {R : Ending → World → Prop} : ∀ (Ds : List Nat) (u : FrameMode) (w : World), u ≠ .run → (∀ D ∈ Ds, w.heap[D]? = some (.deferred (some []))) → Ds.Nodup →
    (∀ w', Fr Ds w w' → (∀ (k : Nat) (c : Array Value) (e : TypeId), Blk w k c e → Blk w' k c e) → LeavesInM F n P fn tmps R [] u w') → LeavesInM F n P fn tmps R (Ds.map mkD) u w
  | [], u, w, hu, _, _, h => h w (Fr.refl _ _) (fun _ _ _ h => h)
  | D :: Ds, u, w, hu, hd, hn, h => by
    have hD := hd D (by simp)
    obtain ⟨n1, n2⟩ := List.nodup_cons.1 hn
    refine ⟨hu, .inl ⟨D, _, rfl, run_takeDeferred hD, leavesM_all Ds u _ hu (fun D' hD' => ?_) n2 fun w' f hb => h w' ?_ fun k c e hk => hb k c e (Blk.putObj hk hD rfl _)⟩⟩
    · exact (World.putObj_heap_other (by intro e; subst e; exact n1 hD')).trans (hd D' (by simp [hD']))
    · exact (show Fr (D :: Ds) w (w.putObj D (.deferred none)) from ⟨rfl, rfl, rfl, by simp [World.putObj], fun k hk hm => World.putObj_heap_other (fun e => hm (by simp [e]))⟩).trans f (fun x hx => .inl (List.mem_cons_of_mem _ hx))
/-- What holds all through. -/
structure BF (w : World) (b1 b2 bl : Nat) (pw : Option Addr) (nw cw : Nat) (Ds : List Nat) (W : World) : Prop where
  fr : Fr [] w W
  h1 : Blk W b1 #[.func (.func 111) #[] #[.pointer (some ⟨bl, 0, none⟩)], .slice pw nw cw] 129
  h2 : Blk W b2 #[.bool false] 4
  mks : ∀ D ∈ Ds, W.heap[D]? = some (.deferred (some [])) ∧ w.heap.size ≤ D
  nd : Ds.Nodup
section
variable {w W W' : World} {b1 b2 bl : Nat} {pw : Option Addr} {nw cw : Nat} {Ds : List Nat}
theorem BF.go {T : List Nat} (h : BF w b1 b2 bl pw nw cw Ds W) (f : Fr T W W') (hT : ∀ t ∈ T, w.heap.size ≤ t ∧ t ≠ b1 ∧ t ≠ b2 ∧ ∃ c e, Blk W t c e) : BF w b1 b2 bl pw nw cw Ds W' :=
  ⟨h.fr.trans f (fun x hx => .inr (hT x hx).1), f.blk h.h1 (fun hm => (hT _ hm).2.1 rfl), f.blk h.h2 (fun hm => (hT _ hm).2.2.1 rfl), fun D hD => ⟨(f.block D (Array.getElem?_eq_some_iff.1 (h.mks D hD).1).1 (fun hm => by
    obtain ⟨c, e, hb⟩ := (hT _ hm).2.2.2
    have := (show W.heap[D]? = _ from hb).symm.trans (h.mks D hD).1
    cases this)).trans (h.mks D hD).1, (h.mks D hD).2⟩, h.nd⟩
theorem BF.ab {A B : World} {row : Option Nat} {n : Nat} (hg : A.grownBy B row) (hr : ∀ r, row = some r → r ∈ ([] : List Nat) ∨ (n ≤ r ∧ ∃ o : Obj, A.heap[r]? = some o ∧ o.isCells = false)) (hn : w.heap.size ≤ n) (hD : ∀ D ∈ Ds, D < n) (h : BF w b1 b2 bl pw nw cw Ds A) : BF w b1 b2 bl pw nw cw Ds B :=
  ⟨fr_ab hg hr hn h.fr (by simp), blk_ab hg hr h.h1 (by simp), blk_ab hg hr h.h2 (by simp), fun D hd => ⟨(hg.block D (Array.getElem?_eq_some_iff.1 (h.mks D hd).1).1 (fun e => by
    rcases hr D e.symm with q | ⟨q, _⟩
    · simp at q
    · have := hD D hd; omega)).trans (h.mks D hd).1, (h.mks D hd).2⟩, h.nd⟩
theorem BF.more {D : Nat} (h : BF w b1 b2 bl pw nw cw Ds W) (hD : W.heap[D]? = some (.deferred (some []))) (h1 : w.heap.size ≤ D) (h2 : ∀ D' ∈ Ds, D' < D) : BF w b1 b2 bl pw nw cw (D :: Ds) W :=
  ⟨h.fr, h.h1, h.h2, fun D' hd => by
    rcases List.mem_cons.1 hd with rfl | hd
    · exact ⟨hD, h1⟩
    · exact h.mks D' hd, List.nodup_cons.2 ⟨fun hm => by have := h2 D hm; omega, h.nd⟩⟩
end
/-- Between two rounds. -/
structure TI (w : World) (b1 b2 bl : Nat) (pw : Option Addr) (nw cw : Nat) (Ds : List Nat) (n4 b4 : Nat) (pre : List RO) (W : World) : Prop where
  bf : BF w b1 b2 bl pw nw cw Ds W
  ct : Blk W b4 #[.int .i64 (pre.length : Nat)] 3
  sz : n4 ≤ W.heap.size
theorem ti_ab {w : World} {b1 b2 bl : Nat} {pw : Option Addr} {nw cw : Nat} {Ds : List Nat} {n4 b4 k : Nat} (hk : w.heap.size ≤ k) (hD : ∀ D ∈ Ds, D < k) : Ab k [] (TI w b1 b2 bl pw nw cw Ds n4 b4) :=
  fun s A B row h hg hr => ⟨h.bf.ab hg hr hk hD, blk_ab hg hr h.ct (by simp), Nat.le_trans h.sz hg.size⟩
theorem eqlFn122 (w : World) (g : Nat) : (binOp .eql 122 (.func (.func 111) #[] #[.pointer (some ⟨g, 0, none⟩)]) Value.nilFunc).run Tryd.prog w = .ok (.bool false) w := by kernel_rfl
attribute [local go_sem high] eqlFn122
/-- What the assign code leaves. -/
def AxT (V : List VO) (n4 b4 : Nat) (tm : Array Value) (x : RO) (a' : Act) (W : World) : Prop :=
  ∃ (b5 j : Nat) (o : VO), n4 ≤ b5 ∧ Blk W b5 #[.int .u32 x.id, .int .u32 x.num, .int .u32 x.t, .int .i32 x.px, .int .i32 x.py, .float .f64 x.sp, .slice x.p x.n x.c] 119 ∧ Blk W b4 #[.int .i64 (j : Nat)] 3 ∧ V[j]? = some o ∧ IsT n4 W x o ∧
    a' = { tmps := (tm.setIfInBounds 16 (.agg #[.int .u32 x.id, .int .u32 x.num, .int .u32 x.t, .int .i32 x.px, .int .i32 x.py, .float .f64 x.sp, .slice x.p x.n x.c])).setIfInBounds 5 (.pointer (some ⟨b5, 0, none⟩)), defers := [] }
set_option maxRecDepth 100000 in
set_option maxHeartbeats 4000000 in
theorem tells_any (w : World) (bl : Nat) (v : Value) (L : List RO) (V : List VO) (pw : Option Addr) (nw cw : Nat) (Lw : List RO) (h : KHeld bl v L V w) (hL : L.length ≤ 65536) (hI : ∀ o ∈ V, o.ids.length ≤ 65536)
    (hw : ObS w (.slice pw nw cw) Lw) (hn : nw = Lw.length) (hl : Lw.length = V.length) (his : ∀ (k : Nat) (x : RO) (o : VO), Lw[k]? = some x → V[k]? = some o → Is w x o) :
    Calls Tryd.prog 55 #[.agg #[.func (.func 111) #[] #[.pointer (some ⟨bl, 0, none⟩)], .slice pw nw cw]] w fun e w' => e = .returned (.bool true) ∧ Fr [] w w' := by
  obtain ⟨w2, hw2⟩ : ∃ w2, (w.alloc (.cells #[.func (.func 111) #[] #[.pointer (some ⟨bl, 0, none⟩)], .slice pw nw cw] 129)).alloc (.cells #[.bool false] 4) = w2 := ⟨_, rfl⟩
  have F2 : Fr [] w w2 := by rw [← hw2]; exact ((Fr.refl _ _).alloc _).alloc _
  have hb1 : Blk w2 w.heap.size #[.func (.func 111) #[] #[.pointer (some ⟨bl, 0, none⟩)], .slice pw nw cw] 129 := by rw [← hw2]; exact (Blk.new w _ _).alloc _
  have hb2 : Blk w2 (w.heap.size + 1) #[.bool false] 4 := by rw [← hw2]; exact Blk.new_at (by simp) _ _
  have y0 := hb1.at 0 (v := .func (.func 111) #[] #[.pointer (some ⟨bl, 0, none⟩)]) rfl
  rw [← hw2] at y0
  have HN := Lib.hid (And.intro hn (And.intro hl h.al.len))
  have HQ := Lib.hid (And.intro F2 (And.intro hb1 (And.intro hb2 hw2)))
  have HH := Lib.hid (And.intro h (And.intro hw (And.intro his hI)))
  clear h hw his hI F2 hb1 hb2 hw2 hn hl
  refine (callsIn_wide (n := 9)).1 ?_
  refine callsIn_of_wp_marks Tryd.func55 rfl trivial ?_ rfl
  simp only [Tryd.ntmps55, List.size_toArray, List.length_cons, List.length_nil, Nat.reduceAdd, Nat.reduceSub, Array.replicate_succ, Array.replicate_zero, List.push_toArray, List.append_toArray, List.nil_append, List.cons_append]
  gi_wp2
  obtain ⟨F2, hb1, hb2, hw2⟩ := HQ.out
  rw [hw2]
  clear hw2 HQ y0
  obtain ⟨b1, hb1'⟩ : ∃ b1, b1 = w.heap.size := ⟨_, rfl⟩
  have hwb : w.heap.size ≤ b1 := by omega
  rw [← hb1'] at hb1 hb2 ⊢
  clear hb1'
  obtain ⟨b2, hb2'⟩ : ∃ b2, b2 = b1 + 1 := ⟨_, rfl⟩
  have hwb2 : b1 < b2 := by omega
  rw [← hb2'] at hb2 ⊢
  clear hb2'
  refine wpIn_loop (fun a W => ∃ (i : Nat) (u4 u5 u6 u7 u8 u9 u10 u11 u12 u13 u14 u15 u16 u17 u18 u19 u20 u21 u22 u23 u24 u25 u26 u27 u28 u29 u30 u31 u32 u33 u34 u35 u36 u37 u38 u39 u40 u41 u42 u43 u44 u45 u46 u47 u48 u49 u50 u51 u52 : Value) (Ds : List Nat), a = { tmps := #[.agg #[.func (.func 111) #[] #[.pointer (some ⟨bl, 0, none⟩)], .slice pw nw cw], .pointer (some ⟨b1, 0, none⟩), .pointer (some ⟨b2, 0, none⟩), .int .i64 (i : Nat), u4, u5, u6, u7, u8, u9, u10, u11, u12, u13, u14, u15, u16, u17, u18, u19, u20, u21, u22, u23, u24, u25, u26, u27, u28, u29, u30, u31, u32, u33, u34, u35, u36, u37, u38, u39, u40, u41, u42, u43, u44, u45, u46, u47, u48, u49, u50, u51, u52], defers := Ds.map mkD } ∧ i ≤ 2 ∧ BF w b1 b2 bl pw nw cw Ds W) (fun a _ => 2 - (intOf (a.tmps.getD 3 undef)).toNat) ?_ ?_
  · exact ⟨0, _, _, _, _, _, _, _, _, _, _, _, _, _, _, _, _, _, _, _, _, _, _, _, _, _, _, _, _, _, _, _, _, _, _, _, _, _, _, _, _, _, _, _, _, _, _, _, _, _, [], rfl, by omega, F2, hb1, hb2, by simp, List.nodup_nil⟩
  · rintro a W ⟨i, u4, u5, u6, u7, u8, u9, u10, u11, u12, u13, u14, u15, u16, u17, u18, u19, u20, u21, u22, u23, u24, u25, u26, u27, u28, u29, u30, u31, u32, u33, u34, u35, u36, u37, u38, u39, u40, u41, u42, u43, u44, u45, u46, u47, u48, u49, u50, u51, u52, Ds, rfl, hi2, hB⟩
    clear F2 hb1 hb2
    have HB := Lib.hid hB
    by_cases hi : i < 2
    · have l1 : (i : Int) < 2 := by omega
      have y0 := (hB.h1.alloc (.cells #[.int .i64 0] 3)).at 0 (v := .func (.func 111) #[] #[.pointer (some ⟨bl, 0, none⟩)]) rfl
      clear hB
      gi_wp2
      obtain ⟨w4, hw4⟩ : ∃ w4, w4 = W.alloc (.cells #[.int .i64 0] 3) := ⟨_, rfl⟩
      obtain ⟨b4, hb4⟩ : ∃ b4, b4 = W.heap.size := ⟨_, rfl⟩
      have hct0 : Blk w4 b4 #[.int .i64 0] 3 := by rw [hw4, hb4]; exact Blk.new W _ _
      have f4 : Fr [] W w4 := by rw [hw4]; exact (Fr.refl _ _).alloc _
      rw [← hw4, ← hb4]
      have hB4 := HB.out.go f4 (by simp)
      have h44 : b4 < w4.heap.size := hct0.lt
      have hDs : ∀ D ∈ Ds, D < w4.heap.size := fun D hD => (Array.getElem?_eq_some_iff.1 (hB4.mks D hD).1).1
      have hww : w.heap.size ≤ w4.heap.size := hB4.fr.size
      have hb1l : b1 < b4 := by have := HB.out.h1.lt; omega
      have hb2l : b2 < b4 := by have := HB.out.h2.lt; omega
      have HK := Lib.hid (show ∀ j, j ∈ kblks bl v L → j < w.heap.size from HH.out.1.lt)
      clear y0 hw4 hb4 f4
      refine wpIn_rangeO_tm (w := w4) (ps := #[16]) (encs := encR) rfl (by decide) (gf := 111) (lb := #[.pointer (some ⟨bl, 0, none⟩)]) rfl trivial (enters_of Tryd.func111 (by kernel_rfl) rfl)
        (allK_tells _ bl (w4.heap.size + 2) v L V hL HH.out.2.2.2) Kpb.trans (fun W l o o' hl h1 h2 => Kpb.put o' (fun hm => by have := HK.out _ hm; omega) (by omega)) (fun W hf _ => HH.out.1.fr0 (hB4.fr.trans hf (by simp))) (fun W l o o' hl h1 h2 h3 => h3.kpb (Kpb.put o' (B := l + 1) (fun hm => by have := HK.out _ hm; omega) (by omega))) (by simp) (fun _ => rfl)
        (TI w b1 b2 bl pw nw cw Ds w4.heap.size b4) (fun _ _ _ => False) (ti_ab hww hDs) (fun c s A B row h hg hr => h) ⟨hB4, by simpa using hct0, Nat.le_refl _⟩
        (fun tm x a' W => AxT V w4.heap.size b4 tm x a' W) ?hAx ?hassign ?hbody ?hdone ?hstop
      case hAx =>
        rintro x a' s A A' row ⟨b5, j, o, h1, h2, h3, h4, h5, h6⟩ hg hr
        exact ⟨b5, j, o, h1, blk_ab (Rs := []) hg (fun r hr' => .inr (hr r hr')) h2 (by simp), blk_ab (Rs := []) hg (fun r hr' => .inr (hr r hr')) h3 (by simp), h4, ⟨h5.id, h5.num, h5.t, h5.px, h5.py, h5.sp, own_ab (Rs := []) hg (fun r hr' => .inr (hr r hr')) h5.own (by simp), h5.low⟩, h6⟩
      case hassign =>
        intro l pre x W K hI hok hK
        obtain ⟨o, ho, hx⟩ := hok
        have hf : Fr [] W (W.alloc (.cells #[.int .u32 x.id, .int .u32 x.num, .int .u32 x.t, .int .i32 x.px, .int .i32 x.py, .float .f64 x.sp, .slice x.p x.n x.c] 119)) := (Fr.refl _ _).alloc _
        have hk := Kpb.of_fr (S := kblks bl v L) (w4.heap.size + 2) hf (fun j hj => ⟨by have := HK.out j hj; have := hI.sz; omega, by simp⟩) (by simp)
        have hkf := kf_of_fr w4.heap.size hf (by simp)
        have hI' := (ti_ab (k := w4.heap.size) (w := w) (b1 := b1) (b2 := b2) (bl := bl) (pw := pw) (nw := nw) (cw := cw) (n4 := w4.heap.size) (b4 := b4) hww hDs).fr hI hf
        have HKK := Lib.hid hK
        clear hK
        simp only [List.zip_toArray, Array.foldl, encR]
        gi_wp2
        exact HKK.out _ _ hkf hk hI' ⟨W.heap.size, pre.length, o, hI.sz, Blk.new W _ _, hI.ct.alloc _, ho, ⟨hx.id, hx.num, hx.t, hx.px, hx.py, hx.sp, own_fr hx.own hf (by simp), fun g hg => by have := hx.low g hg; omega⟩, rfl⟩
      case hbody =>
        rintro l pre ⟨xid, xnum, xt, xpx, xpy, xs, xp, xn, xc⟩ a' W2 hl - hI ⟨b5, j, o, hb5n, hb5, hct, ho, hx, rfl⟩ hN
        have hj : j = pre.length := by have := hct.inj hI.ct; simp at this; omega
        obtain ⟨e1, e2, e3, e4, e5, hFE, hxo, hxlo⟩ := hx
        dsimp only at e1 e2 e3 e4 e5 hFE hb5 ⊢
        subst e1 e2 e3 e4 e5
        unfold RO.v at hxo hxlo
        dsimp only at hxo hxlo
        obtain ⟨k0, hk0⟩ : ∃ k0, k0 = o.ids.length := ⟨_, rfl⟩
        obtain ⟨q1, q2, q3⟩ := own_form hxo
        obtain ⟨-, q4, -⟩ := Value.slice.inj q3
        rw [← hk0] at q4
        subst q4
        clear q3
        have hjw : j < Lw.length := by rw [HN.out.2.1]; exact (List.getElem?_eq_some_iff.1 ho).1
        obtain ⟨y, hy⟩ : ∃ y, Lw[j]? = some y := ⟨_, List.getElem?_eq_getElem hjw⟩
        obtain ⟨yid, ynum, yt, ypx, ypy, ys, yp, yn, yc⟩ := y
        obtain ⟨gw, ow, cpw, hv, hcw0⟩ := ObS.at HH.out.2.1 hy
        obtain ⟨rfl, -, -⟩ := Value.slice.inj hv
        obtain ⟨i0, i1, i2, i3, i4, i5, i6⟩ := HH.out.2.2.1 j _ o hy ho
        dsimp only at i0 i1 i2 i3 i4 i5
        subst i0 i1 i2 i3 i4 i5
        unfold RO.v at i6
        dsimp only at i6
        obtain ⟨r1, r2, r3⟩ := i6.form
        obtain ⟨-, r4, -⟩ := Value.slice.inj r3
        rw [← hk0] at r4
        subst r4
        have hjn : j < nw := by have := HN.out.1; omega
        have hfW := hI.bf.fr
        have hcw := hcw0.fr hfW (by simp)
        have HYI := Lib.hid (i6.grow hfW)
        have hko : yn ≤ 65536 := by rw [hk0]; exact HH.out.2.2.2 o (List.mem_of_getElem? ho)
        have HXI := Lib.hid (show IdS W2 (.slice xp yn xc) o.ids from RdF.of_own (by decide) hxo (by unfold maxLen; omega))
        have HFE := Lib.hid hFE
        have HK0 := Lib.hid hk0
        have HO := Lib.hid hko
        have HJ := Lib.hid hj
        have HXO := Lib.hid hxo
        have HLO := Lib.hid hxlo
        have hb1 := hI.bf.h1
        have hj64 : j ≤ 65536 := by have := HN.out.2.2; have := hN; rw [hj]; omega
        clear hk0 hFE hv r3 i6 hcw0 hy ho hxo hxlo hj hfW
        gi_wp2_with fail
        refine region_grow_in (by kernel_rfl) (by kernel_rfl) [.is (.int .i64 (j : Nat)), .is (.pointer (some ⟨b1, 1, none⟩)), .is (.slice (some ⟨gw, ow, none⟩) nw cw), .is (.int .i64 (nw : Nat)), .is (.bool false), .is (.bool false), .is (.agg #[.int .u32 o.id, .int .u32 o.num, .int .u32 o.t, .int .i32 o.px, .int .i32 o.py, .float .f64 xs, .slice xp yn xc]), .is (.pointer (some ⟨b1, 1, none⟩)), .is (.slice (some ⟨gw, ow, none⟩) nw cw), .is (.int .i64 (j : Nat)), .is (.pointer (some ⟨gw, ow + j * 7, none⟩)), .is (.agg #[.int .u32 o.id, .int .u32 o.num, .int .u32 o.t, .int .i32 o.px, .int .i32 o.py, .float .f64 o.sp, .slice yp yn yc]), .is (.bool true), .is (.bool false), .is (.bool false)] 53 rfl (by kernel_rfl) [(0, 17), (1, 18), (2, 19), (3, 20), (4, 21), (5, 22), (6, 23), (7, 24), (8, 25), (9, 26), (10, 27), (11, 28), (12, 29), (13, 30), (14, 31)] (by kernel_rfl) ?_ ?_
        · intro q a1 W1 i hi hnq hd hG K hK
          have hlt : i < 15 := hi
          have hc : i = 0 ∨ i = 1 ∨ i = 2 ∨ i = 3 ∨ i = 4 ∨ i = 5 ∨ i = 6 ∨ i = 7 ∨ i = 8 ∨ i = 9 ∨ i = 10 ∨ i = 11 ∨ i = 12 ∨ i = 13 ∨ i = 14 := by omega
          rcases hc with rfl | rfl | rfl | rfl | rfl | rfl | rfl | rfl | rfl | rfl | rfl | rfl | rfl | rfl | rfl
          · have e4 := hG.old 4 (by kernel_rfl)
            have c2 := (hG.grown.blk hct (by simp)).at 0 (v := .int .i64 (j : Nat)) rfl
            refine op_do_in rfl (wanted_none rfl) hK (fun K' hK' => ?_)
            unfold Oper.wpIn
            go_simp
            exact hK' _ _ (Fr.refl _ _) rfl
          · have e1 := hG.old 1 (by kernel_rfl)
            refine op_do_in rfl (wanted_none rfl) hK (fun K' hK' => ?_)
            unfold Oper.wpIn
            go_simp
            exact hK' _ _ (Fr.refl _ _) rfl
          · have e18 := hG.val (v := .pointer (some ⟨b1, 1, none⟩)) 1 18 (hd _ rfl ⟨1, .data⟩ (by simp) rfl) rfl rfl
            have c2 := (hG.grown.blk hb1 (by simp)).at 1 (v := .slice (some ⟨gw, ow, none⟩) nw cw) rfl
            refine op_do_in rfl (wanted_none rfl) hK (fun K' hK' => ?_)
            unfold Oper.wpIn
            go_simp
            exact hK' _ _ (Fr.refl _ _) rfl
          · have e19 := hG.val (v := .slice (some ⟨gw, ow, none⟩) nw cw) 2 19 (hd _ rfl ⟨2, .data⟩ (by simp) rfl) rfl rfl
            refine op_do_in rfl (wanted_none rfl) hK (fun K' hK' => ?_)
            unfold Oper.wpIn
            go_simp
            exact hK' _ _ (Fr.refl _ _) rfl
          · have e17 := hG.val (v := .int .i64 (j : Nat)) 0 17 (hd _ rfl ⟨0, .data⟩ (by simp) rfl) rfl rfl
            have e20 := hG.val (v := .int .i64 (nw : Nat)) 3 20 (hd _ rfl ⟨3, .data⟩ (by simp) rfl) rfl rfl
            have l1 : (j : Int) < (nw : Int) := by omega
            refine op_do_in rfl (wanted_none rfl) hK (fun K' hK' => ?_)
            unfold Oper.wpIn
            go_simp
            have hd4 : decide (nw ≤ j) = false := decide_eq_false (by omega)
            rw [hd4]
            exact hK' _ _ (Fr.refl _ _) rfl
          · have e21 := hG.val (v := .bool false) 4 21 (hd _ rfl ⟨4, .data⟩ (by simp) rfl) rfl rfl
            refine op_do_in rfl (wanted_none rfl) hK (fun K' hK' => ?_)
            unfold Oper.wpIn
            go_simp
            exact hK' _ _ (Fr.refl _ _) rfl
          · have e5 := hG.old 5 (by kernel_rfl)
            have eg := hG.val (v := .bool false) 5 22 (hd _ rfl ⟨5, .guard⟩ (by simp) rfl) rfl rfl
            have y0 := (hG.grown.blk hb5 (by simp)).at 0 rfl
            have y1 := (hG.grown.blk hb5 (by simp)).at 1 rfl
            have y2 := (hG.grown.blk hb5 (by simp)).at 2 rfl
            have y3 := (hG.grown.blk hb5 (by simp)).at 3 rfl
            have y4 := (hG.grown.blk hb5 (by simp)).at 4 rfl
            have y5 := (hG.grown.blk hb5 (by simp)).at 5 rfl
            have y6 := (hG.grown.blk hb5 (by simp)).at 6 rfl
            refine op_do_in rfl (by simp [Region.wanted, yielded, eg]) hK (fun K' hK' => ?_)
            unfold Oper.wpIn
            go_simp
            exact hK' _ _ (Fr.refl _ _) rfl
          · have e1 := hG.old 1 (by kernel_rfl)
            have eg := hG.val (v := .bool false) 5 22 (hd _ rfl ⟨5, .guard⟩ (by simp) rfl) rfl rfl
            refine op_do_in rfl (by simp [Region.wanted, yielded, eg]) hK (fun K' hK' => ?_)
            unfold Oper.wpIn
            go_simp
            exact hK' _ _ (Fr.refl _ _) rfl
          · have e24 := hG.val (v := .pointer (some ⟨b1, 1, none⟩)) 7 24 (hd _ rfl ⟨7, .data⟩ (by simp) rfl) rfl rfl
            have eg := hG.val (v := .bool false) 5 22 (hd _ rfl ⟨5, .guard⟩ (by simp) rfl) rfl rfl
            have c2 := (hG.grown.blk hb1 (by simp)).at 1 (v := .slice (some ⟨gw, ow, none⟩) nw cw) rfl
            refine op_do_in rfl (by simp [Region.wanted, yielded, eg]) hK (fun K' hK' => ?_)
            unfold Oper.wpIn
            go_simp
            exact hK' _ _ (Fr.refl _ _) rfl
          · have e4 := hG.old 4 (by kernel_rfl)
            have eg := hG.val (v := .bool false) 5 22 (hd _ rfl ⟨5, .guard⟩ (by simp) rfl) rfl rfl
            have c2 := (hG.grown.blk hct (by simp)).at 0 (v := .int .i64 (j : Nat)) rfl
            refine op_do_in rfl (by simp [Region.wanted, yielded, eg]) hK (fun K' hK' => ?_)
            unfold Oper.wpIn
            go_simp
            exact hK' _ _ (Fr.refl _ _) rfl
          · have e25 := hG.val (v := .slice (some ⟨gw, ow, none⟩) nw cw) 8 25 (hd _ rfl ⟨8, .data⟩ (by simp) rfl) rfl rfl
            have e26 := hG.val (v := .int .i64 (j : Nat)) 9 26 (hd _ rfl ⟨9, .data⟩ (by simp) rfl) rfl rfl
            have eg := hG.val (v := .bool false) 5 22 (hd _ rfl ⟨5, .guard⟩ (by simp) rfl) rfl rfl
            have l0 : (0 : Int) ≤ (j : Int) := by omega
            have l1 : (j : Int) < (nw : Int) := by omega
            refine op_do_in rfl (by simp [Region.wanted, yielded, eg]) hK (fun K' hK' => ?_)
            unfold Oper.wpIn
            go_simp
            exact hK' _ _ (Fr.refl _ _) rfl
          · have e27 := hG.val (v := .pointer (some ⟨gw, ow + j * 7, none⟩)) 10 27 (hd _ rfl ⟨10, .data⟩ (by simp) rfl) rfl rfl
            have eg := hG.val (v := .bool false) 5 22 (hd _ rfl ⟨5, .guard⟩ (by simp) rfl) rfl rfl
            have hcy := hcw.fr hG.grown (by simp)
            have y0 := hcy.c0
            have y1 := hcy.c1
            have y2 := hcy.c2
            have y3 := hcy.c3
            have y4 := hcy.c4
            have y5 := hcy.c5
            have y6 := hcy.c6
            refine op_do_in rfl (by simp [Region.wanted, yielded, eg]) hK (fun K' hK' => ?_)
            unfold Oper.wpIn
            go_simp
            exact hK' _ _ (Fr.refl _ _) rfl
          · have e23 := hG.val (v := .agg #[.int .u32 o.id, .int .u32 o.num, .int .u32 o.t, .int .i32 o.px, .int .i32 o.py, .float .f64 xs, .slice xp yn xc]) 6 23 (hd _ rfl ⟨6, .data⟩ (by simp) rfl) rfl rfl
            have e28 := hG.val (v := .agg #[.int .u32 o.id, .int .u32 o.num, .int .u32 o.t, .int .i32 o.px, .int .i32 o.py, .float .f64 o.sp, .slice yp yn yc]) 11 28 (hd _ rfl ⟨11, .data⟩ (by simp) rfl) rfl rfl
            have eg := hG.val (v := .bool false) 5 22 (hd _ rfl ⟨5, .guard⟩ (by simp) rfl) rfl rfl
            refine op_do_in rfl (by simp [Region.wanted, yielded, eg]) hK (fun K' hK' => ?_)
            unfold Oper.wpIn
            go_simp
            refine ⟨trivial, (callsIn_wide.2 (sameObject_any W1 o.id o.num o.t o.px o.py xs o.sp xp yp yn xc yc o.ids HFE.out HK0.out (HXI.out.grow hG.grown) (HYI.out.grow hG.grown) (by have := HO.out; omega))).mono ?_⟩
            rintro e W2 ⟨rfl, f⟩
            exact hK' _ _ f rfl
          · have e29 := hG.val (v := .bool true) 12 29 (hd _ rfl ⟨12, .data⟩ (by simp) rfl) rfl rfl
            have eg := hG.val (v := .bool false) 5 22 (hd _ rfl ⟨5, .guard⟩ (by simp) rfl) rfl rfl
            refine op_do_in rfl (by simp [Region.wanted, yielded, eg]) hK (fun K' hK' => ?_)
            unfold Oper.wpIn
            go_simp
            exact hK' _ _ (Fr.refl _ _) rfl
          · have e22 := hG.val (v := .bool false) 5 22 (hd _ rfl ⟨5, .data⟩ (by simp) rfl) rfl rfl
            have e30 := hG.val (v := .bool false) 13 30 (hd _ rfl ⟨13, .data⟩ (by simp) rfl) rfl rfl
            refine op_do_in rfl (wanted_none rfl) hK (fun K' hK' => ?_)
            unfold Oper.wpIn
            go_simp
            exact hK' _ _ (Fr.refl _ _) rfl
        · intro vs W1 f1 hv
          have r0 : vs 0 = .int .i64 (j : Nat) := hv 0 17 (by decide) rfl
          have r1 : vs 1 = .pointer (some ⟨b1, 1, none⟩) := hv 1 18 (by decide) rfl
          have r2 : vs 2 = .slice (some ⟨gw, ow, none⟩) nw cw := hv 2 19 (by decide) rfl
          have r3 : vs 3 = .int .i64 (nw : Nat) := hv 3 20 (by decide) rfl
          have r4 : vs 4 = .bool false := hv 4 21 (by decide) rfl
          have r5 : vs 5 = .bool false := hv 5 22 (by decide) rfl
          have r6 : vs 6 = .agg #[.int .u32 o.id, .int .u32 o.num, .int .u32 o.t, .int .i32 o.px, .int .i32 o.py, .float .f64 xs, .slice xp yn xc] := hv 6 23 (by decide) rfl
          have r7 : vs 7 = .pointer (some ⟨b1, 1, none⟩) := hv 7 24 (by decide) rfl
          have r8 : vs 8 = .slice (some ⟨gw, ow, none⟩) nw cw := hv 8 25 (by decide) rfl
          have r9 : vs 9 = .int .i64 (j : Nat) := hv 9 26 (by decide) rfl
          have r10 : vs 10 = .pointer (some ⟨gw, ow + j * 7, none⟩) := hv 10 27 (by decide) rfl
          have r11 : vs 11 = .agg #[.int .u32 o.id, .int .u32 o.num, .int .u32 o.t, .int .i32 o.px, .int .i32 o.py, .float .f64 o.sp, .slice yp yn yc] := hv 11 28 (by decide) rfl
          have r12 : vs 12 = .bool true := hv 12 29 (by decide) rfl
          have r13 : vs 13 = .bool false := hv 13 30 (by decide) rfl
          have r14 : vs 14 = .bool false := hv 14 31 (by decide) rfl
          simp only [lay, List.foldl_cons, List.foldl_nil, r0, r1, r2, r3, r4, r5, r6, r7, r8, r9, r10, r11, r12, r13, r14]
          simp only [List.setIfInBounds_toArray, List.set_cons_zero, List.set_cons_succ]
          clear hv r0 r1 r2 r3 r4 r5 r6 r7 r8 r9 r10 r11 r12 r13 r14
          have hct1 := f1.blk hct (by simp)
          have hb51 := f1.blk hb5 (by simp)
          have hxo1 := own_fr HXO.out f1 (by simp)
          have HP := Lib.hid (And.intro hct1 (And.intro hb51 (And.intro hxo1 (And.intro f1 (And.intro hct hI)))))
          have d5 := hb51.at 6 (v := .slice xp yn xc) rfl
          clear hct1 hb51 hxo1 hI hct hb5 hb1 hcw f1
          gi_wp2
          clear d5
          gi_loopw [6] (fun i wr => ∃ jj : Nat, i = .int .i64 jj ∧ jj ≤ yn ∧ Fr (Value.slice xp yn xc).ownBlock.toList W1 wr ∧ ∀ t ∈ (Value.slice xp yn xc).ownBlock.toList, ∃ c c', Blk W1 t c 33 ∧ Blk wr t c' 33 ∧ c'.size = c.size) (fun i _ => yn - (intOf i).toNat)
          case atStart =>
            refine ⟨0, rfl, Nat.zero_le _, Fr.refl _ _, fun t ht => ?_⟩
            obtain ⟨cc, hcc⟩ := own_blk HP.out.2.2.1 t ht
            exact ⟨cc, cc, hcc, hcc, rfl⟩
          case round =>
            obtain ⟨jj, rfl, hjj, hfr, hbl⟩ := hrel
            obtain ⟨wi, hwi⟩ : ∃ wi : World, wi = wr := ⟨_, rfl⟩
            rw [← hwi] at hfr hbl ⊢
            clear hwi
            have hb5i : Blk wi b5 _ 119 := hfr.blk HP.out.2.1 (fun hm => by
              obtain ⟨cc, hcc⟩ := own_blk HP.out.2.2.1 _ hm
              have := (HP.out.2.1).inj hcc
              exact absurd this.2 (by decide))
            have d5 := hb5i.at 6 (v := .slice xp yn xc) rfl
            by_cases hlt : jj < yn
            · obtain ⟨gx, rfl, cc, hgx, hcs⟩ : ∃ gx, xp = some ⟨gx, 0, none⟩ ∧ ∃ cc, Blk W1 gx cc 33 ∧ yn ≤ cc.size := by
                rcases HP.out.2.2.1.2 with ⟨q, h9⟩ | ⟨gx, cap, cc, h9, _, hgg, hle, _, hsz, _⟩
                · have := HK0.out; omega
                · obtain ⟨rfl, -, -⟩ := Value.slice.inj h9
                  exact ⟨gx, rfl, cc, hgg, by have := HK0.out; omega⟩
              obtain ⟨c1, c2, q1, q2, q3⟩ := hbl gx (by simp [Value.ownBlock])
              have hjc : jj < c2.size := by have := (hgx.inj q1).1; subst this; omega
              have z0 := q2.at jj (v := c2[jj]) (Array.getElem?_eq_getElem hjc)
              have z1 := q2.free jj
              have l0 : (0 : Int) ≤ (jj : Int) := by omega
              have l1 : (jj : Int) < (yn : Int) := by omega
              generalize c2[jj] = u0 at z0
              have HF := Lib.hid (And.intro hfr (And.intro q1 (And.intro q2 q3)))
              clear hfr hbl q1 q2 q3 hgx hb5i hcs hjc
              gi_wp2
              obtain ⟨hfr, q1, q2, q3⟩ := HF.out
              refine ⟨⟨jj + 1, by go_num, by omega, hfr.setCell _ _ (.inl (by simp [Value.ownBlock])), fun t ht => ?_⟩, by simp [intOf]; omega⟩
              have ht' : t = gx := by simp [Value.ownBlock] at ht; omega
              subst ht'
              exact ⟨c1, _, q1, q2.set jj _, by simpa using q3⟩
            · obtain rfl : jj = yn := by omega
              have hct2 := hfr.blk HP.out.1 (fun hm => by
                have := HLO.out b4 (by simpa using hm)
                omega)
              have z0 := hct2.at 0 (v := .int .i64 (j : Nat)) rfl
              have z1 := hct2.free 0
              have HF := Lib.hid (And.intro hfr hct2)
              have hjb : (j : Int) ≤ 65536 := by omega
              clear hfr hbl hct2 hb5i
              gi_wp2
              obtain ⟨hfr, hct2⟩ := HF.out
              obtain ⟨-, -, -, f1, hct, hI⟩ := HP.out
              have F5 : Fr (b4 :: (Value.slice xp jj xc).ownBlock.toList) W2 (wi.setCell ⟨b4, 0, none⟩ (.int .i64 ((j : Int) + 1))) :=
                ((f1.mono (T := b4 :: (Value.slice xp jj xc).ownBlock.toList) (by simp)).trans hfr (fun x hx => .inl (List.mem_cons_of_mem _ hx))).setCell _ _ (.inl (by simp))
              have hT : ∀ t, t ∈ b4 :: (Value.slice xp jj xc).ownBlock.toList → (t = b4 ∨ w4.heap.size ≤ t) ∧ ∃ c e, Blk W2 t c e := fun t ht => by
                rcases List.mem_cons.1 ht with rfl | ht
                · exact ⟨.inl rfl, _, _, hct⟩
                · obtain ⟨cc, hcc⟩ := own_blk HXO.out t ht
                  exact ⟨.inr (HLO.out t (by simpa using ht)), _, _, hcc⟩
              refine ⟨kf_of_fr _ F5 (fun t ht => (hT t ht).2), Kpb.of_fr _ F5 (fun t ht => ⟨?_, fun hm => ?_⟩) (fun t ht => (hT t ht).2), hI.bf.go F5 (fun t ht => ⟨?_, ?_, ?_, (hT t ht).2⟩), ?_, Nat.le_trans hI.sz F5.size⟩
              · have := HK.out t ht; have := hI.sz; omega
              · have := HK.out t ht
                rcases (hT t hm).1 with q | q <;> omega
              · rcases (hT t ht).1 with q | q <;> omega
              · rcases (hT t ht).1 with q | q <;> omega
              · rcases (hT t ht).1 with q | q <;> omega
              · have := hct2.set 0 (.int .i64 ((j : Int) + 1))
                simp only [List.setIfInBounds_toArray, List.set_cons_zero] at this
                rw [List.length_append, List.length_singleton, ← HJ.out]
                exact this
      case hstop =>
        rintro D cc pre W hD hp hI
        exact hI.elim
      case hdone =>
        rintro D xs W2 hD hS hI hen hK
        have hx5 : xs.length = nw := by rw [hS, HN.out.2.2, ← HN.out.2.1, HN.out.1]
        have hI1 := hI.bf.more hK (by omega) (fun D' hd => by have := hDs D' hd; omega)
        have y1 := hI.ct.at 0 (v := .int .i64 (xs.length : Nat)) rfl
        rw [hx5] at y1
        have y2 := hI.bf.h1.at 1 (v := .slice pw nw cw) rfl
        have y3 := hI.bf.h1.at 0 (v := .func (.func 111) #[] #[.pointer (some ⟨bl, 0, none⟩)]) rfl
        have HI1 := Lib.hid hI1
        have HEN := Lib.hid hen
        have hDn : D < W2.heap.size := (Array.getElem?_eq_some_iff.1 hK).1
        have hW2 : w4.heap.size ≤ W2.heap.size := hI.sz
        clear hI hS hI1 hK hx5 hen
        gi_wp2
        have hDs2 : ∀ D' ∈ D :: Ds, D' < W2.heap.size := fun D' hd => (Array.getElem?_eq_some_iff.1 (HI1.out.mks D' hd).1).1
        clear y1 y2 y3
        refine wpIn_rangeO_tm (w := W2) (ps := #[52]) (encs := encR) rfl (by decide) (gf := 111) (lb := #[.pointer (some ⟨bl, 0, none⟩)]) rfl trivial (enters_of Tryd.func111 (by kernel_rfl) rfl)
          (allK_tells _ bl (W2.heap.size + 2) v L V hL HH.out.2.2.2) Kpb.trans (fun W l o o' hl h1 h2 => Kpb.put o' (fun hm => by have := HK.out _ hm; omega) (by omega)) (fun W hf _ => HEN.out.fr0 hf) (fun W l o o' hl h1 h2 h3 => h3.kpb (Kpb.put o' (B := l + 1) (fun hm => by have := HK.out _ hm; omega) (by omega))) (by simp) (fun _ => rfl)
          (fun _ W => BF w b1 b2 bl pw nw cw (D :: Ds) W) (fun c _ W => c = .exit 6 ∧ BF w b1 b2 bl pw nw cw (D :: Ds) W) (fun s A B row h hg hr => h.ab hg hr (by omega) hDs2) (fun c s A B row h hg hr => ⟨h.1, h.2.ab hg hr (by omega) hDs2⟩) HI1.out
          (fun tm x a' W => True) ?hAx ?hassign ?hbody ?hdone ?hstop
        case hAx => exact fun x a' s A A' row h hg hr => trivial
        case hassign =>
          intro l pre x W K hI hok hK
          have HKK := Lib.hid hK
          clear hK
          simp only [List.zip_toArray, Array.foldl, encR]
          gi_wp2
          exact HKK.out _ _ (KeepsFrom.refl _ _) ⟨fun _ _ => rfl, KeepsFrom.refl _ _⟩ hI trivial
        case hbody =>
          rintro l pre x a' W hl - hI - hN
          gi_wp2
          exact ⟨KeepsFrom.refl _ _, ⟨fun _ _ => rfl, KeepsFrom.refl _ _⟩, rfl, hI⟩
        case hdone =>
          rintro D2 xs2 W3 hD2 hS2 hI2 hen2 hK2
          clear hS2 hen2
          have HB6 := Lib.hid (hI2.more hK2 (by omega) (fun D' hd => by have := hDs2 D' hd; omega))
          clear hI2 hK2
          gi_wp2
          refine ⟨⟨i + 1, ?_⟩, by simp [intOf]; omega⟩
          rw [show ((i + 1 : Nat) : Int) = (i : Int) + 1 by omega]
          iterate 49 apply Exists.intro
          exact ⟨D2 :: D :: Ds, rfl, by omega, HB6.out⟩
        case hstop =>
          rintro D2 cc pre W3 hD2 hp ⟨rfl, hI2⟩ hen2 hK2
          clear hp hen2
          have HB6 := Lib.hid (hI2.more hK2 (by omega) (fun D' hd => by have := hDs2 D' hd; omega))
          clear hI2 hK2
          gi_wp2
          refine ⟨⟨i + 1, ?_⟩, by simp [intOf]; omega⟩
          rw [show ((i + 1 : Nat) : Int) = (i : Int) + 1 by omega]
          iterate 49 apply Exists.intro
          exact ⟨D2 :: D :: Ds, rfl, by omega, HB6.out⟩
    · obtain rfl : i = 2 := by omega
      have z0 := hB.h2.at 0 (v := .bool false) rfl
      have z1 := hB.h2.free 0
      clear hB
      gi_wp2
      obtain ⟨hfr, h1, h2, hmk, hnd⟩ := HB.out
      have F5 : Fr [b2] W (W.setCell ⟨b2, 0, none⟩ (.bool true)) := (Fr.refl _ _).setCell _ _ (.inl (by simp))
      have h25 : Blk (W.setCell ⟨b2, 0, none⟩ (.bool true)) b2 #[.bool true] 4 := by simpa using h2.set 0 (.bool true)
      refine leavesM_all Ds .returning _ (by simp) (fun D hD => (F5.block D (Array.getElem?_eq_some_iff.1 (hmk D hD).1).1 (fun hm => ?_)).trans (hmk D hD).1) hnd fun w' f hb => ?_
      · simp at hm
        subst hm
        have := (show W.heap[D]? = _ from h2).symm.trans (hmk D hD).1
        cases this
      · have e0 := (hb _ _ _ h25).at 0 (v := .bool true) rfl
        exact ⟨.bool true, by simp [results, Tryd.results55, go_sem, e0], rfl, (hfr.trans F5 (fun x hx => .inr (by simp at hx; omega))).trans f (fun x hx => .inr (hmk x hx).2)⟩
end Go.Proofs.YtgoolkgjcmdilaaDoor
end
