/-
  tells: an iterator of a ring of texts that was taken tells what it is to tell, twice, and may be left early. Printed by genQlT.py.
-/
import Derived.Test.YtiimmndhinoaiaaDoorQlE
import Derived.Test.YtiimmndhinoaiaaDoorQtA
import Derived.Test.YtiimmndhinoaiaaDoorRdF
namespace Go.Proofs.YtiimmndhinoaiaaDoor
open Go.RowKit
set_option linter.unusedVariables false
set_option linter.unusedSimpArgs false
attribute [local go_sem] Oper.semAt_some
namespace Qu
/-- The mark that a range over a function leaves. -/
def mkD (D : Nat) : Deferred := { target := .collected D, args := #[] }
theorem leavesM_all {F : Fence} {n : Nat} {P : Program} {fn : Func} {tmps : Array Value} {R : Ending → World → Prop} : ∀ (Ds : List Nat) (u : FrameMode) (w : World), u ≠ .run → (∀ D ∈ Ds, w.heap[D]? = some (.deferred (some []))) → Ds.Nodup →
    (∀ w', Fr Ds w w' → (∀ (k : Nat) (c : Array Value) (e : TypeId), Blk w k c e → Blk w' k c e) → LeavesInM F n P fn tmps R [] u w') → LeavesInM F n P fn tmps R (Ds.map mkD) u w
  | [], u, w, hu, _, _, h => h w (Fr.refl _ _) (fun _ _ _ h => h)
  | D :: Ds, u, w, hu, hd, hn, h => by
    have hD := hd D (by simp)
    obtain ⟨n1, n2⟩ := List.nodup_cons.1 hn
    refine ⟨hu, .inl ⟨D, _, rfl, run_takeDeferred hD, leavesM_all Ds u _ hu (fun D' hD' => ?_) n2 fun w' f hb => h w' ?_ fun k c e hk => hb k c e (Blk.putObj hk hD rfl _)⟩⟩
    · exact (World.putObj_heap_other (by intro e; subst e; exact n1 hD')).trans (hd D' (by simp [hD']))
    · exact (show Fr (D :: Ds) w (w.putObj D (.deferred none)) from ⟨rfl, rfl, rfl, by simp [World.putObj], fun k hk hm => World.putObj_heap_other (fun e => hm (by simp [e]))⟩).trans f (fun x hx => .inl (List.mem_cons_of_mem _ hx))
/-- What holds all through. -/
structure BF (w : World) (b1 b2 bl : Nat) (pw : Option Addr) (nw cw : Nat) (Ds : List Nat) (W : World) : Prop where
  fr : Fr [] w W
  h1 : Blk W b1 #[.func (.func 50) #[] #[.pointer (some ⟨bl, 0, none⟩)], .slice pw nw cw] 76
  h2 : Blk W b2 #[.bool false] 4
  mks : ∀ D ∈ Ds, W.heap[D]? = some (.deferred (some [])) ∧ w.heap.size ≤ D
  nd : Ds.Nodup
section
variable {w W W' : World} {b1 b2 bl : Nat} {pw : Option Addr} {nw cw : Nat} {Ds : List Nat}
theorem BF.go {T : List Nat} (h : BF w b1 b2 bl pw nw cw Ds W) (f : Fr T W W') (hT : ∀ t ∈ T, w.heap.size ≤ t ∧ t ≠ b1 ∧ t ≠ b2 ∧ ∃ c e, Blk W t c e) : BF w b1 b2 bl pw nw cw Ds W' :=
  ⟨h.fr.trans f (fun x hx => .inr (hT x hx).1), f.blk h.h1 (fun hm => (hT _ hm).2.1 rfl), f.blk h.h2 (fun hm => (hT _ hm).2.2.1 rfl), fun D hD => ⟨(f.block D (Array.getElem?_eq_some_iff.1 (h.mks D hD).1).1 (fun hm => by
    obtain ⟨c, e, hb⟩ := (hT _ hm).2.2.2
    have := (show W.heap[D]? = _ from hb).symm.trans (h.mks D hD).1
    cases this)).trans (h.mks D hD).1, (h.mks D hD).2⟩, h.nd⟩
theorem BF.ab {A B : World} {row : Option Nat} {n : Nat} (hg : A.grownBy B row) (hr : ∀ r, row = some r → r ∈ ([] : List Nat) ∨ (n ≤ r ∧ ∃ o : Obj, A.heap[r]? = some o ∧ o.isCells = false)) (hn : w.heap.size ≤ n) (hD : ∀ D ∈ Ds, D < n) (h : BF w b1 b2 bl pw nw cw Ds A) : BF w b1 b2 bl pw nw cw Ds B :=
  ⟨fr_ab hg hr hn h.fr (by simp), blk_ab hg hr h.h1 (by simp), blk_ab hg hr h.h2 (by simp), fun D hd => ⟨(hg.block D (Array.getElem?_eq_some_iff.1 (h.mks D hd).1).1 (fun e => by
    rcases hr D e.symm with q | ⟨q, _⟩
    · simp at q
    · have := hD D hd; omega)).trans (h.mks D hd).1, (h.mks D hd).2⟩, h.nd⟩
theorem BF.more {D : Nat} (h : BF w b1 b2 bl pw nw cw Ds W) (hD : W.heap[D]? = some (.deferred (some []))) (h1 : w.heap.size ≤ D) (h2 : ∀ D' ∈ Ds, D' < D) : BF w b1 b2 bl pw nw cw (D :: Ds) W :=
  ⟨h.fr, h.h1, h.h2, fun D' hd => by
    rcases List.mem_cons.1 hd with rfl | hd
    · exact ⟨hD, h1⟩
    · exact h.mks D' hd, List.nodup_cons.2 ⟨fun hm => by have := h2 D hm; omega, h.nd⟩⟩
end
/-- Between two rounds. -/
structure TI (w : World) (b1 b2 bl : Nat) (pw : Option Addr) (nw cw : Nat) (Ds : List Nat) (n4 b4 : Nat) (pre : List (Nat × ByteArray)) (W : World) : Prop where
  bf : BF w b1 b2 bl pw nw cw Ds W
  ct : Blk W b4 #[.int .i64 (pre.length : Nat)] 3
  sz : n4 ≤ W.heap.size
theorem ti_ab {w : World} {b1 b2 bl : Nat} {pw : Option Addr} {nw cw : Nat} {Ds : List Nat} {n4 b4 k : Nat} (hk : w.heap.size ≤ k) (hD : ∀ D ∈ Ds, D < k) : Ab k [] (TI w b1 b2 bl pw nw cw Ds n4 b4) :=
  fun s A B row h hg hr => ⟨h.bf.ab hg hr hk hD, blk_ab hg hr h.ct (by simp), Nat.le_trans h.sz hg.size⟩
theorem eqlFn70 (w : World) (g : Nat) : (binOp .eql 70 (.func (.func 50) #[] #[.pointer (some ⟨g, 0, none⟩)]) Value.nilFunc).run Tryd.prog w = .ok (.bool false) w := by kernel_rfl
attribute [local go_sem high] eqlFn70

/-- What the assign code leaves. -/
def AxT (V : List Int) (b4 : Nat) (tm : Array Value) (x : Nat × ByteArray) (a' : Act) (W : World) : Prop :=
  ∃ j : Nat, Blk W b4 #[.int .i64 (j : Nat)] 3 ∧ (x.1 = j ∧ (V.map qtx)[j]? = some x.2) ∧ a' = { tmps := (((tm.setIfInBounds 16 (.int .i64 (j : Nat))).setIfInBounds 17 (.string x.2)).setIfInBounds 5 (.int .i64 (j : Nat))).setIfInBounds 6 (.string x.2), defers := [] }
set_option maxRecDepth 100000 in
set_option maxHeartbeats 4000000 in
theorem tells_any (w : World) (bl : Nat) (v : Value) (V : List Int) (pw : Option Addr) (nw cw : Nat) (h : RgS.AllHeld bl v (V.map qtx) w) (hL : V.length ≤ 65536) (hI : ∀ x ∈ V, I64 x) (hT : TB w)
    (hw : RdF w (.slice pw nw cw) V.length 1 (ints V)) (hn : nw = V.length) :
    Calls Tryd.prog 25 #[.agg #[.func (.func 50) #[] #[.pointer (some ⟨bl, 0, none⟩)], .slice pw nw cw]] w fun e w' => e = .returned (.bool true) ∧ Fr [] w w' := by
  obtain ⟨w2, hw2⟩ : ∃ w2, (w.alloc (.cells #[.func (.func 50) #[] #[.pointer (some ⟨bl, 0, none⟩)], .slice pw nw cw] 76)).alloc (.cells #[.bool false] 4) = w2 := ⟨_, rfl⟩
  have F2 : Fr [] w w2 := by rw [← hw2]; exact ((Fr.refl _ _).alloc _).alloc _
  have hb1 : Blk w2 w.heap.size #[.func (.func 50) #[] #[.pointer (some ⟨bl, 0, none⟩)], .slice pw nw cw] 76 := by rw [← hw2]; exact (Blk.new w _ _).alloc _
  have hb2 : Blk w2 (w.heap.size + 1) #[.bool false] 4 := by rw [← hw2]; exact Blk.new_at (by simp) _ _
  have y0 := hb1.at 0 (v := .func (.func 50) #[] #[.pointer (some ⟨bl, 0, none⟩)]) rfl
  rw [← hw2] at y0
  have HN := Lib.hid (And.intro hn hL)
  have HQ := Lib.hid (And.intro F2 (And.intro hb1 (And.intro hb2 hw2)))
  have HH := Lib.hid (And.intro h (And.intro hw (And.intro hT hI)))
  have hLt : (V.map qtx).length ≤ 4611686018427387904 := by rw [List.length_map]; omega
  have HLT := Lib.hid hLt
  clear h hw hI hT F2 hb1 hb2 hw2 hn hL hLt
  refine (callsIn_wide (n := 9)).1 ?_
  refine callsIn_of_wp_marks Tryd.func25 rfl trivial ?_ rfl
  simp only [Tryd.ntmps25, List.size_toArray, List.length_cons, List.length_nil, Nat.reduceAdd, Nat.reduceSub, Array.replicate_succ, Array.replicate_zero, List.push_toArray, List.append_toArray, List.nil_append, List.cons_append]
  gi_wp2
  obtain ⟨F2, hb1, hb2, hw2⟩ := HQ.out
  rw [hw2]
  clear hw2 HQ y0
  obtain ⟨b1, hb1'⟩ : ∃ b1, b1 = w.heap.size := ⟨_, rfl⟩
  have hwb : w.heap.size ≤ b1 := by omega
  rw [← hb1'] at hb1 hb2 ⊢
  clear hb1'
  obtain ⟨b2, hb2'⟩ : ∃ b2, b2 = b1 + 1 := ⟨_, rfl⟩
  have hwb2 : b1 < b2 := by omega
  rw [← hb2'] at hb2 ⊢
  clear hb2'
  refine wpIn_loop (fun a W => ∃ (i : Nat) (u4 u5 u6 u7 u8 u9 u10 u11 u12 u13 u14 u15 u16 u17 u18 u19 u20 u21 u22 u23 u24 u25 u26 u27 u28 u29 u30 u31 u32 u33 u34 u35 u36 u37 u38 u39 u40 u41 u42 u43 u44 u45 u46 u47 u48 : Value) (Ds : List Nat), a = { tmps := #[.agg #[.func (.func 50) #[] #[.pointer (some ⟨bl, 0, none⟩)], .slice pw nw cw], .pointer (some ⟨b1, 0, none⟩), .pointer (some ⟨b2, 0, none⟩), .int .i64 (i : Nat), u4, u5, u6, u7, u8, u9, u10, u11, u12, u13, u14, u15, u16, u17, u18, u19, u20, u21, u22, u23, u24, u25, u26, u27, u28, u29, u30, u31, u32, u33, u34, u35, u36, u37, u38, u39, u40, u41, u42, u43, u44, u45, u46, u47, u48], defers := Ds.map mkD } ∧ i ≤ 2 ∧ BF w b1 b2 bl pw nw cw Ds W) (fun a _ => 2 - (intOf (a.tmps.getD 3 undef)).toNat) ?_ ?_
  · exact ⟨0, _, _, _, _, _, _, _, _, _, _, _, _, _, _, _, _, _, _, _, _, _, _, _, _, _, _, _, _, _, _, _, _, _, _, _, _, _, _, _, _, _, _, _, _, _, [], rfl, by omega, F2, hb1, hb2, by simp, List.nodup_nil⟩
  · rintro a W ⟨i, u4, u5, u6, u7, u8, u9, u10, u11, u12, u13, u14, u15, u16, u17, u18, u19, u20, u21, u22, u23, u24, u25, u26, u27, u28, u29, u30, u31, u32, u33, u34, u35, u36, u37, u38, u39, u40, u41, u42, u43, u44, u45, u46, u47, u48, Ds, rfl, hi2, hB⟩
    clear F2 hb1 hb2
    have HB := Lib.hid hB
    by_cases hi : i < 2
    · have l1 : (i : Int) < 2 := by omega
      have y0 := (hB.h1.alloc (.cells #[.int .i64 0] 3)).at 0 (v := .func (.func 50) #[] #[.pointer (some ⟨bl, 0, none⟩)]) rfl
      clear hB
      gi_wp2
      obtain ⟨w4, hw4⟩ : ∃ w4, w4 = W.alloc (.cells #[.int .i64 0] 3) := ⟨_, rfl⟩
      obtain ⟨b4, hb4⟩ : ∃ b4, b4 = W.heap.size := ⟨_, rfl⟩
      have hct0 : Blk w4 b4 #[.int .i64 0] 3 := by rw [hw4, hb4]; exact Blk.new W _ _
      have f4 : Fr [] W w4 := by rw [hw4]; exact (Fr.refl _ _).alloc _
      rw [← hw4, ← hb4]
      have hB4 := HB.out.go f4 (by simp)
      have h44 : b4 < w4.heap.size := hct0.lt
      have hDs : ∀ D ∈ Ds, D < w4.heap.size := fun D hD => (Array.getElem?_eq_some_iff.1 (hB4.mks D hD).1).1
      have hww : w.heap.size ≤ w4.heap.size := hB4.fr.size
      have hb1l : b1 < b4 := by have := HB.out.h1.lt; omega
      have hb2l : b2 < b4 := by have := HB.out.h2.lt; omega
      have HK := Lib.hid (show ∀ j, j ∈ bl :: v.ownBlock.toList → j < w.heap.size from fun j hj => by
        rcases List.mem_cons.1 hj with rfl | hj
        · exact HH.out.1.1.lt
        · exact own_lt HH.out.1.2 (by simpa using hj))
      clear y0 hw4 hb4 f4
      refine wpIn_rangeO_tm (w := w4) (ps := #[16, 17]) (encs := prArg) rfl (by decide) (gf := 50) (lb := #[.pointer (some ⟨bl, 0, none⟩)]) rfl trivial (enters_of Tryd.func50 (by kernel_rfl) rfl)
        (qall_tells _ bl (w4.heap.size + 2) v (V.map qtx) HLT.out) Kpb.trans (fun W l o o' hl h1 h2 => Kpb.put o' (fun hm => by have := HK.out _ hm; omega) (by omega)) (fun W hf _ => HH.out.1.fr (hB4.fr.trans hf (by simp)) (by simp) (by simp)) (fun W l o o' hl h1 h2 h3 => held_kpb h3 (Kpb.put o' (B := l + 1) (fun hm => by have := HK.out _ hm; omega) (by omega))) (by simp) (fun _ => rfl)
        (TI w b1 b2 bl pw nw cw Ds w4.heap.size b4) (fun _ _ _ => False) (ti_ab hww hDs) (fun c s A B row h hg hr => h) ⟨hB4, by simpa using hct0, Nat.le_refl _⟩
        (fun tm x a' W => AxT V b4 tm x a' W) ?hAx ?hassign ?hbody ?hdone ?hstop
      case hAx =>
        rintro x a' s A A' row ⟨j, h3, h4, h6⟩ hg hr
        exact ⟨j, blk_ab (Rs := []) hg (fun r hr' => .inr (hr r hr')) h3 (by simp), h4, h6⟩
      case hassign =>
        intro l pre x W K hI hok hK
        have HKK := Lib.hid hK
        clear hK
        simp only [List.zip_toArray, Array.foldl, prArg]
        gi_wp2
        exact HKK.out _ _ (KeepsFrom.refl _ _) ⟨fun _ _ => rfl, KeepsFrom.refl _ _⟩ hI ⟨pre.length, hI.ct, hok, rfl⟩
      case hbody =>
        rintro l pre ⟨x1, x⟩ a' W2 hl - hI ⟨j, hct, ⟨hxj, hx⟩, rfl⟩ hN
        simp only at hxj hx
        obtain rfl : j = x1 := hxj.symm
        have hj : j = pre.length := by have := hct.inj hI.ct; simp at this; omega
        have hjw : j < V.length := by have := (List.getElem?_eq_some_iff.1 hx).1; simpa using this
        obtain ⟨y, hy⟩ : ∃ y, V[j] = y := ⟨_, rfl⟩
        have hyi := HH.out.2.2.2 y (by rw [← hy]; exact List.getElem_mem hjw)
        have hxy : qtx y = x := by rw [List.getElem?_map, List.getElem?_eq_getElem hjw, hy] at hx; simpa using hx
        have hfW := hI.bf.fr
        obtain ⟨gw, ow, cpw, hv, _, _, hcell⟩ := HH.out.2.1.pos (by omega)
        obtain ⟨rfl, -, -⟩ := Value.slice.inj hv
        have z0 := hcell j (.int .i64 y) (by simp [ints, hjw, hy])
        have z1 := (hfW.cell (World.block_lt_of_cell? w _ z0) (by simp)).trans z0
        have hTX := Lib.hid (qtext_any W2 y hyi (HH.out.2.2.1.fr hfW (by simp)))
        have c0 := hct.at 0 (v := .int .i64 (j : Nat)) rfl
        have c1 := hI.bf.h1.at 1 (v := .slice (some ⟨gw, ow, none⟩) nw cw) rfl
        have l3 : ¬ nw ≤ j := by have := HN.out.1; omega
        have l4 : (j : Int) < (nw : Int) := by omega
        have l5 : (0 : Int) ≤ (j : Int) := by omega
        have HX := Lib.hid (And.intro hxy (And.intro hct (And.intro hI (And.intro hj hx))))
        clear hxy hct hI hj hx hcell z0 hfW hyi hy hjw hv
        gi_wp2_with fail
        refine ⟨trivial, (callsIn_wide.2 hTX.out).mono ?_⟩
        rintro e W3 ⟨rfl, f3⟩
        obtain ⟨hxy, hct, hI, hj, hx⟩ := HX.out
        rw [hxy]
        have hct3 := f3.blk hct (by simp)
        have d0 := hct3.at 0 (v := .int .i64 (j : Nat)) rfl
        have d1 := hct3.free 0
        have hj65 : (j : Int) ≤ 65536 := by have := HN.out; omega
        have HF := Lib.hid (And.intro f3 hct3)
        clear hxy hct hI hj hx f3 hct3 c0 c1 z1
        gi_wp2
        obtain ⟨hxy, hct, hI, hj, hx⟩ := HX.out
        obtain ⟨f3, hct3⟩ := HF.out
        have F5 : Fr [b4] W2 (W3.setCell ⟨b4, 0, none⟩ (.int .i64 ((j : Int) + 1))) := (f3.mono (T := [b4]) (by simp)).setCell _ _ (.inl (by simp))
        have hT : ∀ t, t ∈ [b4] → ∃ c e, Blk W2 t c e := fun t ht => by simp at ht; subst ht; exact ⟨_, _, hct⟩
        refine ⟨kf_of_fr _ F5 hT, Kpb.of_fr _ F5 (fun t ht => ⟨?_, fun hm => ?_⟩) hT, hI.bf.go F5 (fun t ht => ⟨?_, ?_, ?_, hT t ht⟩), ?_, Nat.le_trans hI.sz F5.size⟩
        · have := HK.out t ht; have := hI.sz; omega
        · have := HK.out t ht; simp at hm; omega
        · simp at ht; omega
        · simp at ht; omega
        · simp at ht; omega
        · have := hct3.set 0 (.int .i64 ((j : Int) + 1))
          simp only [List.setIfInBounds_toArray, List.set_cons_zero] at this
          rw [List.length_append, List.length_singleton, ← hj]
          exact this
      case hstop =>
        rintro D cc pre W hD hp hI
        exact hI.elim
      case hdone =>
        rintro D xs W2 hD hS hI hen hK
        have hx5 : xs.length = nw := by rw [hS, List.length_map]; exact HN.out.1.symm
        have hI1 := hI.bf.more hK (by omega) (fun D' hd => by have := hDs D' hd; omega)
        have y1 := hI.ct.at 0 (v := .int .i64 (xs.length : Nat)) rfl
        rw [hx5] at y1
        have y2 := hI.bf.h1.at 1 (v := .slice pw nw cw) rfl
        have y3 := hI.bf.h1.at 0 (v := .func (.func 50) #[] #[.pointer (some ⟨bl, 0, none⟩)]) rfl
        have HI1 := Lib.hid hI1
        have HEN := Lib.hid hen
        have hDn : D < W2.heap.size := (Array.getElem?_eq_some_iff.1 hK).1
        have hW2 : w4.heap.size ≤ W2.heap.size := hI.sz
        clear hI hS hI1 hK hx5 hen
        gi_wp2
        have hDs2 : ∀ D' ∈ D :: Ds, D' < W2.heap.size := fun D' hd => (Array.getElem?_eq_some_iff.1 (HI1.out.mks D' hd).1).1
        clear y1 y2 y3
        refine wpIn_rangeO_tm (w := W2) (ps := #[47, 48]) (encs := prArg) rfl (by decide) (gf := 50) (lb := #[.pointer (some ⟨bl, 0, none⟩)]) rfl trivial (enters_of Tryd.func50 (by kernel_rfl) rfl)
          (qall_tells _ bl (W2.heap.size + 2) v (V.map qtx) HLT.out) Kpb.trans (fun W l o o' hl h1 h2 => Kpb.put o' (fun hm => by have := HK.out _ hm; omega) (by omega)) (fun W hf _ => HEN.out.fr hf (by simp) (by simp)) (fun W l o o' hl h1 h2 h3 => held_kpb h3 (Kpb.put o' (B := l + 1) (fun hm => by have := HK.out _ hm; omega) (by omega))) (by simp) (fun _ => rfl)
          (fun _ W => BF w b1 b2 bl pw nw cw (D :: Ds) W) (fun c _ W => c = .exit 4 ∧ BF w b1 b2 bl pw nw cw (D :: Ds) W) (fun s A B row h hg hr => h.ab hg hr (by omega) hDs2) (fun c s A B row h hg hr => ⟨h.1, h.2.ab hg hr (by omega) hDs2⟩) HI1.out
          (fun tm x a' W => True) ?hAx ?hassign ?hbody ?hdone ?hstop
        case hAx => exact fun x a' s A A' row h hg hr => trivial
        case hassign =>
          intro l pre x W K hI hok hK
          have HKK := Lib.hid hK
          clear hK
          simp only [List.zip_toArray, Array.foldl, prArg]
          gi_wp2
          exact HKK.out _ _ (KeepsFrom.refl _ _) ⟨fun _ _ => rfl, KeepsFrom.refl _ _⟩ hI trivial
        case hbody =>
          rintro l pre x a' W hl - hI - hN
          gi_wp2
          exact ⟨KeepsFrom.refl _ _, ⟨fun _ _ => rfl, KeepsFrom.refl _ _⟩, rfl, hI⟩
        case hdone =>
          rintro D2 xs2 W3 hD2 hS2 hI2 hen2 hK2
          clear hS2 hen2
          have HB6 := Lib.hid (hI2.more hK2 (by omega) (fun D' hd => by have := hDs2 D' hd; omega))
          clear hI2 hK2
          gi_wp2
          refine ⟨⟨i + 1, ?_⟩, by simp [intOf]; omega⟩
          rw [show ((i + 1 : Nat) : Int) = (i : Int) + 1 by omega]
          iterate 45 apply Exists.intro
          exact ⟨D2 :: D :: Ds, rfl, by omega, HB6.out⟩
        case hstop =>
          rintro D2 cc pre W3 hD2 hp ⟨rfl, hI2⟩ hen2 hK2
          clear hp hen2
          have HB6 := Lib.hid (hI2.more hK2 (by omega) (fun D' hd => by have := hDs2 D' hd; omega))
          clear hI2 hK2
          gi_wp2
          refine ⟨⟨i + 1, ?_⟩, by simp [intOf]; omega⟩
          rw [show ((i + 1 : Nat) : Int) = (i : Int) + 1 by omega]
          iterate 45 apply Exists.intro
          exact ⟨D2 :: D :: Ds, rfl, by omega, HB6.out⟩
    · obtain rfl : i = 2 := by omega
      have z0 := hB.h2.at 0 (v := .bool false) rfl
      have z1 := hB.h2.free 0
      clear hB
      gi_wp2
      obtain ⟨hfr, h1, h2, hmk, hnd⟩ := HB.out
      have F5 : Fr [b2] W (W.setCell ⟨b2, 0, none⟩ (.bool true)) := (Fr.refl _ _).setCell _ _ (.inl (by simp))
      have h25 : Blk (W.setCell ⟨b2, 0, none⟩ (.bool true)) b2 #[.bool true] 4 := by simpa using h2.set 0 (.bool true)
      refine leavesM_all Ds .returning _ (by simp) (fun D hD => (F5.block D (Array.getElem?_eq_some_iff.1 (hmk D hD).1).1 (fun hm => ?_)).trans (hmk D hD).1) hnd fun w' f hb => ?_
      · simp at hm
        subst hm
        have := (show W.heap[D]? = _ from h2).symm.trans (hmk D hD).1
        cases this
      · have e0 := (hb _ _ _ h25).at 0 (v := .bool true) rfl
        exact ⟨.bool true, by simp [results, Tryd.results25, go_sem, e0], rfl, (hfr.trans F5 (fun x hx => .inr (by simp at hx; omega))).trans f (fun x hx => .inr (hmk x hx).2)⟩
end Qu
end Go.Proofs.YtiimmndhinoaiaaDoor
