/-
  Tb, part 25 of 36: the texts KbH.
-/
import Derived.Test.YtgoolkgjcmdilaaDoorTb24
section
namespace Go.Proofs.YtgoolkgjcmdilaaDoor
open Go.RowKit
set_option linter.unusedVariables false
set_option linter.unusedSimpArgs false
attribute [local go_sem] Oper.semAt_some
/-- An object that was told, and one of the book: its list is new memory. -/
structure IsC (n0 : Nat) (ids : List Int) (W : World) (x : RO) (c : OC) : Prop where
  id : x.id = c.id
  num : x.num = c.num
  t : x.t = c.t
  px : x.px = c.px
  py : x.py = c.py
  sp : x.sp = c.sp
  own : W.ownsRow 0 33 1 x.v ids.length (u32v ids)
  low : ∀ g, x.v.ownBlock = some g → n0 ≤ g
theorem IsC.fr {n0 : Nat} {ids : List Int} {W W' : World} {x : RO} {c : OC} {S : List Nat} (h : IsC n0 ids W x c) (f : Fr S W W') (hs : ∀ g, x.v.ownBlock = some g → g ∉ S) : IsC n0 ids W' x c :=
  ⟨h.id, h.num, h.t, h.px, h.py, h.sp, own_fr h.own f hs, h.low⟩
theorem IsC.grow {n0 : Nat} {ids : List Int} {W W' : World} {x : RO} {c : OC} (h : IsC n0 ids W x c) (f : Fr [] W W') : IsC n0 ids W' x c := h.fr f (by simp)
set_option maxRecDepth 100000 in
theorem kget_no (w : World) (k bO bN bP : Nat) (v : Value) (Os : List (Int × Nat)) (rO id : Int) (h : BkAt w k bO bN bP) (hO : TabO w bO v Os rO) (hi : U32 id) (hl : hasId Os id = false) :
    Calls Tryd.prog 114 #[.pointer (some ⟨k, 0, none⟩), .int .u32 id] w fun e w' => e = .returned (.tuple #[.agg #[.int .u32 0, .int .u32 0, .int .u32 0, .int .i32 0, .int .i32 0, .float .f64 0, .slice none 0 0], .bool false]) ∧ Fr [] w w' := by
  have F0 : Fr [] w (w.alloc (.cells #[.int .u32 0, .int .u32 0, .int .u32 0, .int .i32 0, .int .i32 0, .float .f64 0, .slice none 0 0] 119)) := (Fr.refl _ _).alloc _
  have hR := Blk.new w #[.int .u32 0, .int .u32 0, .int .u32 0, .int .i32 0, .int .i32 0, .float .f64 0, .slice none 0 0] 119
  have c0 := Blk.at (h.grow F0) 0 (v := .pointer (some ⟨bO, 0, none⟩)) rfl
  have HT := Lib.hid (there_yes _ k bO bN bP (h.grow F0))
  have HC := Lib.hid (getO_no _ bO v Os rO id (hO.grow F0) hi hl)
  have HF := Lib.hid (And.intro F0 hR)
  clear h F0 hR hO hi hl
  go_enter Tryd.func114, Tryd.ntmps114
  go_wp2_with fail
  (with_reducible refine (HT.out).mono ?_)
  rintro e w1 ⟨rfl, rfl⟩
  go_wp2_with fail
  (with_reducible refine (HC.out).mono ?_)
  rintro e w1 ⟨rfl, f1⟩
  have hR := f1.blk HF.out.2 (by simp)
  have e0 := hR.at 0 (v := .int .u32 0) rfl
  have e1 := hR.at 1 (v := .int .u32 0) rfl
  have e2 := hR.at 2 (v := .int .u32 0) rfl
  have e3 := hR.at 3 (v := .int .i32 0) rfl
  have e4 := hR.at 4 (v := .int .i32 0) rfl
  have e5 := hR.at 5 (v := .float .f64 0) rfl
  have e6 := hR.at 6 (v := .slice none 0 0) rfl
  have g0 := hR.free 0
  have g1 := hR.free 1
  have g2 := hR.free 2
  have g3 := hR.free 3
  have g4 := hR.free 4
  have g5 := hR.free 5
  have g6 := hR.free 6
  have HG := Lib.hid (And.intro (HF.out.1.trans f1 (by simp)) hR)
  clear f1 hR c0
  go_wp2_with fail
  have F5 := (((((((HG.out.1.setCell ⟨w.heap.size, 0, none⟩ (.int .u32 0) (.inr (Nat.le_refl _))).setCell ⟨w.heap.size, 1, none⟩ (.int .u32 0) (.inr (Nat.le_refl _))).setCell ⟨w.heap.size, 2, none⟩ (.int .u32 0) (.inr (Nat.le_refl _))).setCell ⟨w.heap.size, 3, none⟩ (.int .i32 0) (.inr (Nat.le_refl _))).setCell ⟨w.heap.size, 4, none⟩ (.int .i32 0) (.inr (Nat.le_refl _))).setCell ⟨w.heap.size, 5, none⟩ (.float .f64 0) (.inr (Nat.le_refl _))).setCell ⟨w.heap.size, 6, none⟩ (.slice none 0 0) (.inr (Nat.le_refl _)))
  have hb := ((((((HG.out.2.set 0 (.int .u32 0)).set 1 (.int .u32 0)).set 2 (.int .u32 0)).set 3 (.int .i32 0)).set 4 (.int .i32 0)).set 5 (.float .f64 0)).set 6 (.slice none 0 0)
  simp only [List.setIfInBounds_toArray, List.set_cons_zero, List.set_cons_succ] at hb
  clear e0 e1 e2 e3 e4 e5 e6
  have e0 := hb.at 0 (v := .int .u32 0) rfl
  have e1 := hb.at 1 (v := .int .u32 0) rfl
  have e2 := hb.at 2 (v := .int .u32 0) rfl
  have e3 := hb.at 3 (v := .int .i32 0) rfl
  have e4 := hb.at 4 (v := .int .i32 0) rfl
  have e5 := hb.at 5 (v := .float .f64 0) rfl
  have e6 := hb.at 6 (v := .slice none 0 0) rfl
  refine bodyPost_ret (v := .tuple #[.agg #[.int .u32 0, .int .u32 0, .int .u32 0, .int .i32 0, .int .i32 0, .float .f64 0, .slice none 0 0], .bool false]) (by simp [results, Tryd.results114, go_sem, e0, e1, e2, e3, e4, e5, e6]) rfl ⟨rfl, F5⟩
def GetPost (w : World) (c : OC) (ids : List Int) (e : Ending) (w' : World) : Prop :=
  ∃ x : RO, e = .returned (.tuple #[.agg #[.int .u32 x.id, .int .u32 x.num, .int .u32 x.t, .int .i32 x.px, .int .i32 x.py, .float .f64 x.sp, .slice x.p x.n x.c], .bool true]) ∧ IsC w.heap.size ids w' x c ∧ Fr [] w w'
set_option maxRecDepth 100000 in
theorem kget_yes (w : World) (N : List Nat) (k bO bN bP : Nat) (v u vP : Value) (rO rN : Nat) (Fs : List (Int × Int)) (BP : List Bool) (Cs : List OC) (c : OC) (id : Int) (h : KBL w N k bO bN bP v u vP rO rN Fs BP Cs) (hc : c ∈ Cs) (hi : U32 id) (hx : (Cs.map OC.pair)[rank (Cs.map OC.pair) id]? = some (id, c.x)) :
    Calls Tryd.prog 114 #[.pointer (some ⟨k, 0, none⟩), .int .u32 id] w (GetPost w c (idsOf Fs c.B)) := by
  have F0 : Fr [] w (w.alloc (.cells #[.int .u32 0, .int .u32 0, .int .u32 0, .int .i32 0, .int .i32 0, .float .f64 0, .slice none 0 0] 119)) := (Fr.refl _ _).alloc _
  have hR := Blk.new w #[.int .u32 0, .int .u32 0, .int .u32 0, .int .i32 0, .int .i32 0, .float .f64 0, .slice none 0 0] 119
  have c0 := Blk.at (h.hd.grow F0) 0 (v := .pointer (some ⟨bO, 0, none⟩)) rfl
  have HT := Lib.hid (there_yes _ k bO bN bP (h.hd.grow F0))
  have HC := Lib.hid (getO_yes _ bO v (Cs.map OC.pair) rO id c.x (h.hO.grow F0) hi hx)
  have HF := Lib.hid (And.intro F0 hR)
  have HH := Lib.hid (And.intro h hc)
  clear h F0 hR hc hi hx
  go_enter Tryd.func114, Tryd.ntmps114
  go_wp2_with fail
  (with_reducible refine (HT.out).mono ?_)
  rintro e w1 ⟨rfl, rfl⟩
  go_wp2_with fail
  (with_reducible refine (HC.out).mono ?_)
  rintro e w1 ⟨rfl, f1⟩
  have HG := Lib.hid (And.intro (HF.out.1.trans f1 (by simp)) (f1.blk HF.out.2 (by simp)))
  clear f1 c0
  go_wp2_with fail
  (with_reducible refine (kwhole w1 N k bO bN bP v u vP rO rN Fs BP Cs c (HH.out.1.grow HG.out.1) HH.out.2).mono ?_)
  rintro e w2 ⟨v2, rfl, hr⟩
  obtain ⟨p2, c2, rfl⟩ := hr.form
  have hR := hr.fr.blk HG.out.2 (by simp)
  have e0 := hR.at 0 (v := .int .u32 0) rfl
  have e1 := hR.at 1 (v := .int .u32 0) rfl
  have e2 := hR.at 2 (v := .int .u32 0) rfl
  have e3 := hR.at 3 (v := .int .i32 0) rfl
  have e4 := hR.at 4 (v := .int .i32 0) rfl
  have e5 := hR.at 5 (v := .float .f64 0) rfl
  have e6 := hR.at 6 (v := .slice none 0 0) rfl
  have g0 := hR.free 0
  have g1 := hR.free 1
  have g2 := hR.free 2
  have g3 := hR.free 3
  have g4 := hR.free 4
  have g5 := hR.free 5
  have g6 := hR.free 6
  have HR := Lib.hid (And.intro hr hR)
  clear hr hR
  go_wp2_with fail
  obtain ⟨hr, hR⟩ := HR.out
  have F5 := (((((((Fr.refl [w.heap.size] w2).setCell ⟨w.heap.size, 0, none⟩ (.int .u32 c.id) (.inl (by simp))).setCell ⟨w.heap.size, 1, none⟩ (.int .u32 c.num) (.inl (by simp))).setCell ⟨w.heap.size, 2, none⟩ (.int .u32 c.t) (.inl (by simp))).setCell ⟨w.heap.size, 3, none⟩ (.int .i32 c.px) (.inl (by simp))).setCell ⟨w.heap.size, 4, none⟩ (.int .i32 c.py) (.inl (by simp))).setCell ⟨w.heap.size, 5, none⟩ (.float .f64 c.sp) (.inl (by simp))).setCell ⟨w.heap.size, 6, none⟩ (.slice p2 (idsOf Fs c.B).length c2) (.inl (by simp))
  have hb := ((((((hR.set 0 (.int .u32 c.id)).set 1 (.int .u32 c.num)).set 2 (.int .u32 c.t)).set 3 (.int .i32 c.px)).set 4 (.int .i32 c.py)).set 5 (.float .f64 c.sp)).set 6 (.slice p2 (idsOf Fs c.B).length c2)
  simp only [List.setIfInBounds_toArray, List.set_cons_zero, List.set_cons_succ] at hb
  clear e0 e1 e2 e3 e4 e5 e6
  have e0 := hb.at 0 (v := .int .u32 c.id) rfl
  have e1 := hb.at 1 (v := .int .u32 c.num) rfl
  have e2 := hb.at 2 (v := .int .u32 c.t) rfl
  have e3 := hb.at 3 (v := .int .i32 c.px) rfl
  have e4 := hb.at 4 (v := .int .i32 c.py) rfl
  have e5 := hb.at 5 (v := .float .f64 c.sp) rfl
  have e6 := hb.at 6 (v := .slice p2 (idsOf Fs c.B).length c2) rfl
  have hw1 : w.heap.size < w1.heap.size := HG.out.2.lt
  refine bodyPost_ret (v := .tuple #[.agg #[.int .u32 c.id, .int .u32 c.num, .int .u32 c.t, .int .i32 c.px, .int .i32 c.py, .float .f64 c.sp, .slice p2 (idsOf Fs c.B).length c2], .bool true]) (by simp [results, Tryd.results114, go_sem, e0, e1, e2, e3, e4, e5, e6]) rfl ⟨⟨c.id, c.num, c.t, c.px, c.py, c.sp, p2, _, c2⟩, rfl, ⟨rfl, rfl, rfl, rfl, rfl, rfl, own_fr hr.own F5 (fun g hg hm => ?_), fun g hg => ?_⟩, (HG.out.1.trans hr.fr (by simp)).trans F5 (fun s hs => .inr (by simp at hs; omega))⟩
  · have := hr.low g hg
    simp at hm
    omega
  · have := hr.low g hg
    omega
def Stab.whole (n0 : Nat) (ids : List Int) (c : OC) : Stab := ⟨fun u W => ∃ x : RO, u = .agg #[.int .u32 x.id, .int .u32 x.num, .int .u32 x.t, .int .i32 x.px, .int .i32 x.py, .float .f64 x.sp, .slice x.p x.n x.c] ∧ IsC n0 ids W x c, fun u W W' f h => by
  obtain ⟨x, h1, h2⟩ := h
  exact ⟨x, h1, h2.grow f⟩⟩
def Stab.one7 (n0 : Nat) (ids : List Int) (c : OC) : Stab := ⟨fun u W => ∃ (x : RO) (g : Nat), u = .slice (some ⟨g, 0, none⟩) 1 1 ∧ (∀ j y, (encO x)[j]? = some y → W.cell? ((⟨g, 0, none⟩ : Addr).add j) = some y) ∧ g < W.heap.size ∧ IsC n0 ids W x c, fun u W W' f h => by
  obtain ⟨x, g, h1, h2, h3, h4⟩ := h
  refine ⟨x, g, h1, fun j y hj => (f.cell (a := (⟨g, 0, none⟩ : Addr).add j) ?_ (by simp)).trans (h2 j y hj), Nat.lt_of_lt_of_le h3 f.size, h4.grow f⟩
  rw [Addr.add_lit]
  exact h3⟩
/-- Between two rounds of All. -/
structure AlI (w : World) (n4 bk bl k : Nat) (Fs : List (Int × Int)) (Cs : List OC) (pre : List {c // c ∈ Cs}) (W : World) : Prop where
  row : ∃ v L, Blk W bl #[v] 125 ∧ RowNew w 119 7 W v L.length (encs L) ∧ (∀ g, v.ownBlock = some g → n4 ≤ g) ∧ Al2 (fun x c => IsC w.heap.size (idsOf Fs c.B) W x c) L (pre.map Subtype.val)
  box : Blk W bk #[.pointer (some ⟨k, 0, none⟩)] 112
  sz : n4 ≤ W.heap.size
theorem al_ab (w : World) (n4 bk bl k : Nat) (Fs : List (Int × Int)) (Cs : List OC) (i : Nat) (hk : w.heap.size ≤ i) : Ab i [] (AlI w n4 bk bl k Fs Cs) :=
  fun s A B row h hg hr => by
    obtain ⟨v, L, h1, h2, h3, h4⟩ := h.row
    exact ⟨⟨v, L, blk_ab hg hr h1 (by simp), row_ab hg hr hk h2, h3, h4.mono fun x c _ _ hx => ⟨hx.id, hx.num, hx.t, hx.px, hx.py, hx.sp, own_ab hg hr hx.own (by simp), hx.low⟩⟩, blk_ab hg hr h.box (by simp), Nat.le_trans h.sz hg.size⟩
theorem Al2.snoc {α β : Type} {R : α → β → Prop} : ∀ {l : List α} {m : List β} {a : α} {b : β}, Al2 R l m → R a b → Al2 R (l ++ [a]) (m ++ [b])
  | _, _, _, _, .nil, h => .cons h .nil
  | _, _, _, _, .cons r h2, h => .cons r (Al2.snoc h2 h)
def AllKPost (w : World) (Fs : List (Int × Int)) (Cs : List OC) (e : Ending) (w' : World) : Prop :=
  ∃ bl v L, e = .returned (.func (.func 111) #[] #[.pointer (some ⟨bl, 0, none⟩)]) ∧ w.heap.size ≤ bl ∧ Blk w' bl #[v] 125 ∧ RowNew w 119 7 w' v L.length (encs L) ∧ Al2 (fun x c => IsC w.heap.size (idsOf Fs c.B) w' x c) L Cs
set_option maxRecDepth 100000 in
set_option maxHeartbeats 2000000 in
theorem kall (w : World) (N : List Nat) (k bO bN bP : Nat) (vO u vP : Value) (rO rN : Nat) (Fs : List (Int × Int)) (BP : List Bool) (Cs : List OC) (h : KBL w N k bO bN bP vO u vP rO rN Fs BP Cs) :
    Calls Tryd.prog 52 #[.pointer (some ⟨k, 0, none⟩)] w (AllKPost w Fs Cs) := by
  obtain ⟨w2, hw2⟩ : ∃ w2, (w.alloc (.cells #[.pointer (some ⟨k, 0, none⟩)] 112)).alloc (.cells #[.slice none 0 0] 125) = w2 := ⟨_, rfl⟩
  have F2 : Fr [] w w2 := by rw [← hw2]; exact ((Fr.refl _ _).alloc _).alloc _
  have hb1 : Blk w2 w.heap.size #[.pointer (some ⟨k, 0, none⟩)] 112 := by rw [← hw2]; exact (Blk.new w _ _).alloc _
  have hb2 : Blk w2 (w.heap.size + 1) #[.slice none 0 0] 125 := by rw [← hw2]; exact Blk.new_at (by simp) _ _
  have HT := Lib.hid (there_yes w2 k bO bN bP (h.hd.grow F2))
  have HA := Lib.hid (allO_any w2 bO vO _ _ (h.hO.grow F2))
  have c0 := Blk.at (h.hd.grow F2) 0 (v := .pointer (some ⟨bO, 0, none⟩)) rfl
  have y0 := hb1.at 0 (v := .pointer (some ⟨k, 0, none⟩)) rfl
  rw [← hw2] at HT c0 y0
  have HQ := Lib.hid (And.intro F2 (And.intro hb1 (And.intro hb2 hw2)))
  have HH := Lib.hid h
  clear h F2 hb1 hb2 hw2
  refine (callsIn_wide (n := 9)).1 ?_
  refine callsIn_of_wp_marks Tryd.func52 rfl trivial ?_ rfl
  simp only [Tryd.ntmps52, List.size_toArray, List.length_cons, List.length_nil, Nat.reduceAdd, Nat.reduceSub, Array.replicate_succ, Array.replicate_zero, List.push_toArray, List.append_toArray, List.nil_append, List.cons_append]
  gi_wp2
  refine ⟨trivial, (callsIn_wide.2 HT.out).mono ?_⟩
  rintro e w1 ⟨rfl, rfl⟩
  gi_wp2
  obtain ⟨F2, hb1, hb2, hw2⟩ := HQ.out
  rw [hw2]
  clear hw2 HQ HT c0 y0
  obtain ⟨bk, hbk⟩ : ∃ bk, bk = w.heap.size := ⟨_, rfl⟩
  have hwb0 : w.heap.size ≤ bk := by omega
  rw [← hbk] at hb1 hb2 ⊢
  clear hbk
  obtain ⟨bl, hbl0⟩ : ∃ bl, bl = bk + 1 := ⟨_, rfl⟩
  have hwb : w.heap.size ≤ bl := by omega
  have hkl : bk < bl := by omega
  rw [← hbl0] at hb2 ⊢
  clear hbl0
  refine ⟨trivial, (callsIn_wide.2 HA.out).mono ?_⟩
  rintro e w4 ⟨bx, lv, rfl, hbx, hcp, hbx1, f4⟩
  have hHeld : OHeld bx lv (Cs.map OC.pair) w4 := ⟨hbx, hcp.1⟩
  obtain ⟨gq, hgq, hge⟩ := hcp.2
  have hlt2 : bl < w2.heap.size := hb2.lt
  have HK := Lib.hid (show ∀ j, j ∈ bx :: lv.ownBlock.toList → w2.heap.size ≤ j ∧ j < w4.heap.size from fun j hj => by
    rcases List.mem_cons.1 hj with rfl | hj
    · exact ⟨by omega, hbx.lt⟩
    · have e1 : j = gq := by rw [hgq] at hj; simpa using hj
      subst e1
      exact ⟨by omega, own_lt hcp.1 hgq⟩)
  have HL := Lib.hid hHeld
  have hle4 : w2.heap.size ≤ w4.heap.size := f4.size
  have hlC : Cs.length ≤ 64 := by have := HH.out.lC; have := HH.out.m0; omega
  have f04 := F2.trans f4 (by simp)
  have HI0 := Lib.hid (show AlI w w4.heap.size bk bl k Fs Cs [] w4 from ⟨⟨_, [], f4.blk hb2 (by simp), (RowNew.start w 119 7).grow f04, by simp [Value.ownBlock], .nil⟩, f4.blk hb1 (by simp), Nat.le_refl _⟩)
  have hbn : bl < w4.heap.size := by omega
  have hww : w.heap.size ≤ w4.heap.size := f04.size
  clear f4 hbx hcp hgq hge hHeld hbx1 F2 hb1 hb2 f04 HA
  gi_wp2
  obtain ⟨n4, hn4⟩ : ∃ n4, n4 = w4.heap.size := ⟨_, rfl⟩
  rw [← hn4] at HK hle4 HI0 hbn
  have hn4' : n4 ≤ w4.heap.size := by omega
  have hn4'' : w4.heap.size ≤ n4 := by omega
  clear hn4
  refine wpIn_range_tm (w := w4) (ps := #[13, 14]) (encs := fun (x : {c // c ∈ Cs}) => #[.int .u32 x.1.pair.1, .pointer (some ⟨x.1.pair.2, 0, none⟩)]) rfl (by decide) (gf := 144) (lb := #[.pointer (some ⟨bx, 0, none⟩)]) rfl trivial (enters_of Tryd.func144 (by kernel_rfl) rfl)
    (allO_tells _ bx (w4.heap.size + 2) lv Cs OC.pair (by omega)) Kpb.trans (fun W l o o' hl h1 h2 => Kpb.put o' (fun hm => by have := HK.out _ hm; omega) (by omega)) (fun W hf _ => HL.out.fr0 hf) (fun W l o o' hl h1 h2 h3 => h3.kpb (Kpb.put o' (B := l + 1) (fun hm => by have := HK.out _ hm; omega) (by omega))) (by simp) (fun _ => rfl)
    (AlI w n4 bk bl k Fs Cs) (fun _ _ _ => False) (al_ab _ _ _ _ _ _ _ _ hww) (fun c s A B row h hg hr => h) HI0.out
    (fun tm x a' W => a' = { tmps := ((tm.setIfInBounds 13 (.int .u32 x.1.id)).setIfInBounds 14 (.pointer (some ⟨x.1.x, 0, none⟩))).setIfInBounds 5 (.pointer (some ⟨x.1.x, 0, none⟩)), defers := [] }) ?hAx ?hassign ?hbody ?hdone ?hstop
  case hAx => exact fun x a' s A A' row h hg hr => h
  case hassign =>
    intro l pre x W K hI hK
    have HKK := Lib.hid hK
    clear hK
    simp only [List.zip_toArray, Array.foldl, OC.pair]
    gi_wp2
    refine HKK.out _ _ (KeepsFrom.refl _ _) ⟨fun _ _ => rfl, KeepsFrom.refl _ _⟩ hI ?_
    rfl
  case hbody =>
    rintro l pre ⟨c, hc⟩ a' W hl - hI rfl hN
    dsimp only
    obtain ⟨v, L, hbl, hrow, hge, hal⟩ := hI.row
    obtain ⟨pv, cv, rfl⟩ := hrow.form
    have hLl : L.length ≤ 1000 := by
      have := hal.len
      rw [List.length_map] at this
      omega
    have HIW := Lib.hid (And.intro hI (And.intro hbl (And.intro hrow (And.intro hge hal))))
    clear hI hbl hrow hge hal
    gi_wp2_with fail
    refine region_tail_in (by kernel_rfl) (by kernel_rfl) [[], [], [], [1, 2], [1, 2, 3], [0, 1, 2, 3, 4], [0, 1, 2, 3, 4, 5]] (by kernel_rfl) 5 (by decide) (by kernel_rfl) [.is (.slice pv L.length cv), .is (.pointer (some ⟨k, 0, none⟩)), .is (.pointer (some ⟨c.x, 0, none⟩)), .whole w.heap.size (idsOf Fs c.B) c, .one7 w.heap.size (idsOf Fs c.B) c] 22 rfl (by kernel_rfl) ?_ ?_
    · intro q a1 W1 i hi hnq hd hG K hK
      have hlt : i < 5 := hi
      have hc : i = 0 ∨ i = 1 ∨ i = 2 ∨ i = 3 ∨ i = 4 := by omega
      rcases hc with rfl | rfl | rfl | rfl | rfl
      · have e3 := hG.old 3 (by kernel_rfl)
        have c2 := (hG.grown.blk HIW.out.2.1 (by simp)).at 0 (v := .slice pv L.length cv) rfl
        refine op_do_in rfl (wanted_none rfl) hK (fun K' hK' => ?_)
        unfold Oper.wpIn
        go_simp
        exact hK' _ _ (Fr.refl _ _) rfl
      · have e1 := hG.old 1 (by kernel_rfl)
        have c2 := (hG.grown.blk HIW.out.1.box (by simp)).at 0 (v := .pointer (some ⟨k, 0, none⟩)) rfl
        refine op_do_in rfl (wanted_none rfl) hK (fun K' hK' => ?_)
        unfold Oper.wpIn
        go_simp
        exact hK' _ _ (Fr.refl _ _) rfl
      · have e5 := hG.old 5 (by kernel_rfl)
        refine op_do_in rfl (wanted_none rfl) hK (fun K' hK' => ?_)
        unfold Oper.wpIn
        go_simp
        exact hK' _ _ (Fr.refl _ _) rfl
      · have e16 := hG.val (v := .pointer (some ⟨k, 0, none⟩)) 1 16 (hd _ rfl ⟨1, .data⟩ (by simp) rfl) rfl rfl
        have e17 := hG.val (v := .pointer (some ⟨c.x, 0, none⟩)) 2 17 (hd _ rfl ⟨2, .data⟩ (by simp) rfl) rfl rfl
        refine op_do_in rfl (wanted_none rfl) hK (fun K' hK' => ?_)
        unfold Oper.wpIn
        go_simp
        refine ⟨trivial, (callsIn_wide.2 (kwhole W1 N k bO bN bP vO u vP rO rN Fs BP Cs c (HH.out.grow (HIW.out.2.2.1.fr.trans hG.grown (by simp))) hc)).mono ?_⟩
        rintro e W2 ⟨v2, rfl, hr⟩
        obtain ⟨p2, c2, rfl⟩ := hr.form
        exact hK' _ _ hr.fr ⟨⟨c.id, c.num, c.t, c.px, c.py, c.sp, p2, _, c2⟩, rfl, rfl, rfl, rfl, rfl, rfl, rfl, hr.own, fun g hg => Nat.le_trans (HIW.out.2.2.1.fr.trans hG.grown (by simp)).size (hr.low g hg)⟩
      · obtain ⟨u3, e18, s3⟩ := hG.get 3 18 (hd _ rfl ⟨3, .data⟩ (by simp) rfl) rfl
        obtain ⟨x, rfl, hx⟩ := s3
        refine op_do_in rfl (wanted_none rfl) hK (fun K' hK' => ?_)
        unfold Oper.wpIn
        go_simp
        exact hK' _ _ ((Fr.refl _ _).alloc _) ⟨x, W1.heap.size, rfl, new_list W1 (encO x) 119 _ rfl, by simp, hx.grow ((Fr.refl _ _).alloc _)⟩
    · intro q a1 W1 hq hG
      have f1 := hG.grown
      obtain ⟨vs, hv, rfl⟩ := hG.front 22 rfl (by kernel_rfl) (by decide) hq [(0, 15), (1, 16), (2, 17), (3, 18), (4, 19)] (by kernel_rfl)
      clear hG hq
      have r0 : vs 0 = .slice pv L.length cv := hv 0 15 (by decide) rfl
      have r1 : vs 1 = .pointer (some ⟨k, 0, none⟩) := hv 1 16 (by decide) rfl
      have r2 : vs 2 = .pointer (some ⟨c.x, 0, none⟩) := hv 2 17 (by decide) rfl
      have r3 := hv 3 18 (by decide) rfl
      have r4 := hv 4 19 (by decide) rfl
      simp only [List.drop_succ_cons, List.drop_zero, lay, List.foldl_cons, List.foldl_nil, r0, r1, r2]
      simp only [List.setIfInBounds_toArray, List.set_cons_zero, List.set_cons_succ]
      clear hv r0 r1 r2
      generalize vs 3 = x3 at *
      generalize vs 4 = x4 at *
      clear vs
      obtain ⟨x, g, hx4, hcells, hgl, hx⟩ := r4
      subst hx4
      obtain ⟨hI, hbl, hrow, hge, hal⟩ := HIW.out
      have hrow1 := hrow.grow f1
      have HR := Lib.hid (And.intro hrow1.own hLl)
      have HX := Lib.hid (And.intro hcells hx)
      have HS := Lib.hid (fun (v' : Value) (w1 : World) (happ : Appended W1 119 7 (.slice pv L.length cv) (L.length + 1) (encs L ++ encO x) v' w1) => app_step0 (o := 0) hbl (by rfl) hrow hge hbn hI.sz hwb f1 happ)
      have HF1 := Lib.hid f1
      clear hI hbl hrow hge hal hrow1 hcells hx f1 r3 hgl
      gi_wp2_with (gi_at_builtin; go_must (refine wpListIn_app _ rfl _ _ 125 rfl 119 (.agg #[.int .u32 0, .int .u32 0, .int .u32 0, .int .i32 0, .int .i32 0, .float .f64 0, .slice none 0 0]) 7 56 Tryd.underlying125 infoOb rfl (by decide) (.slice pv L.length cv) L.length (encs L) rfl HR.out.1 ⟨g, 0, none⟩ 1 1 (encO x) rfl rfl HX.out.1 (encO_one x) (by have := HR.out.2; unfold maxLen; omega) (by have := HR.out.2; omega) ?_); intro v1 w1 happ; obtain ⟨g1, cp1, rfl⟩ := own_succ happ.own; have hs1 := HS.out _ _ happ; have cb := hs1.cell; have cf := hs1.free; have HS1 := Lib.hid hs1; clear hs1 happ)
      obtain ⟨hI, hbl, hrow, hge, hal⟩ := HIW.out
      have hs := HS1.out
      have hx := HX.out.2
      have hf1 := HF1.out
      have hin : ∀ {j : Nat}, j < bl → j ∉ bl :: (Value.slice pv L.length cv).ownBlock.toList := fun hj hm => by
        rcases (hs.old _ hm).1 with q | q <;> omega
      have hnx : ∀ {y : RO} {d : OC} {ids : List Int}, IsC w.heap.size ids W y d → ∀ g, y.v.ownBlock = some g → g ∉ bl :: (Value.slice pv L.length cv).ownBlock.toList := fun hy g hg hm => by
        rcases List.mem_cons.1 hm with hm | hm
        · exact own_ne hy.own hg hbl (by decide) hm.symm
        · obtain ⟨cc, hcc⟩ := own_blk hrow.own g hm
          exact own_ne hy.own hg hcc (by decide) rfl
      have hnx1 : ∀ g, x.v.ownBlock = some g → g ∉ (Value.slice pv L.length cv).ownBlock.toList := fun g hg hm => by
        obtain ⟨cc, hcc⟩ := own_blk (hrow.grow hf1).own g hm
        exact own_ne hx.own hg hcc (by decide) rfl
      have fW := hs.fr
      have hxn : IsC w.heap.size (idsOf Fs c.B) (w1.setCell ⟨bl, 0, none⟩ (.slice (some ⟨g1, 0, none⟩) (L.length + 1) cp1)) x c := by
        have h1 : ∀ g, x.v.ownBlock = some g → g ≠ bl := fun g hg e => by
          have := own_ne hx.own hg (hf1.blk hbl (by simp)) (by decide)
          exact this e.symm
        refine ⟨hx.id, hx.num, hx.t, hx.px, hx.py, hx.sp, ?_, hx.low⟩
        have hfa : Fr (Value.slice pv L.length cv).ownBlock.toList W1 w1 := hs.fr0
        exact own_fr (own_fr hx.own hfa hnx1) ((Fr.refl [bl] w1).setCell _ _ (.inl (by simp))) (fun g hg hm => h1 g hg (by simpa using hm))
      refine ⟨kf_of_fr _ fW (fun j hj => (hs.old j hj).2), Kpb.of_fr _ fW (fun j hj => ⟨?_, fun hm => ?_⟩) (fun j hj => (hs.old j hj).2), ⟨_, L ++ [x], hs.new, ?_, hs.low, ?_⟩, fW.blk hI.box (hin (by omega)), Nat.le_trans hI.sz fW.size⟩
      · have := HK.out j hj; have := hI.sz; omega
      · have h8 := HK.out j hj
        rcases (hs.old j hm).1 with q | q <;> omega
      · rw [List.length_append, List.length_singleton, encs_app, show encs [x] = encO x by simp [encs]]
        exact hs.row
      · rw [List.map_append]
        exact Al2.snoc (hal.mono fun y d _ _ hy => hy.fr fW (hnx hy)) hxn
  case hstop =>
    rintro D cc pre W hD hp hI
    exact hI.elim
  case hdone =>
    rintro D xs W hD rfl hI hen hK
    obtain ⟨v, L, hbl, hrow, hge, hal⟩ := hI.row
    have HR := Lib.hid (And.intro hbl (And.intro hrow (And.intro hal hK)))
    clear hbl hrow hge hal hK hI hen
    gi_wp2
    obtain ⟨hbl, hrow, hal, hK⟩ := HR.out
    rw [List.attach_map_subtype_val] at hal
    refine ⟨by simp, .inl ⟨_, _, rfl, run_takeDeferred hK, ?_⟩⟩
    refine ⟨.func (.func 111) #[] #[.pointer (some ⟨bl, 0, none⟩)], by simp [results, Tryd.results52, go_sem], bl, v, L, rfl, by omega, Blk.putObj hbl hK rfl _, ⟨own_putObj hrow.own hK rfl _, hrow.low, hrow.fr.putObj _ _ (by omega)⟩, hal.mono fun x c _ _ hx => ⟨hx.id, hx.num, hx.t, hx.px, hx.py, hx.sp, own_putObj hx.own hK rfl _, hx.low⟩⟩
end Go.Proofs.YtgoolkgjcmdilaaDoor
end
