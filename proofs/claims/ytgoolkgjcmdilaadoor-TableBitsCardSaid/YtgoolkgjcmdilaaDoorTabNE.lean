/-
  Tables of N: Put.
-/
import Derived.Test.YtgoolkgjcmdilaaDoorTabND
import Derived.Test.YtgoolkgjcmdilaaDoorInv
import Derived.BigRegion
import Derived.Deep.CutBlock
import Derived.Deep.DeepCutAuto
namespace Go.Proofs.YtgoolkgjcmdilaaDoor
open Go.RowKit
set_option linter.unusedVariables false
set_option linter.unusedSimpArgs false
attribute [local go_sem] Oper.semAt_some

theorem own_setN {w : World} {e : TypeId} {K n g : Nat} {v : Value} {xs : List Value} (h : w.ownsRow 0 e K v n xs) (hg : v.ownBlock = some g) (j : Nat) (u : Value) (hj : j < xs.length) : (w.setCell ⟨g, j, none⟩ u).ownsRow 0 e K v n (xs.set j u) := by
  refine ⟨by rw [List.length_set]; exact h.1, ?_⟩
  rcases h.2 with ⟨rfl, _⟩ | ⟨g', cap, cur, rfl, hb, hgg, hnc, hm, hcs, htake⟩
  · simp [Value.ownBlock] at hg
  · simp [Value.ownBlock] at hg
    subst hg
    refine .inr ⟨g', cap, cur.setIfInBounds j u, rfl, hb, Blk.set hgg j u, hnc, hm, by simpa using hcs, ?_⟩
    rw [Array.toList_setIfInBounds, List.take_set, htake]
theorem setN_flat {Ps : List (Int × (Int))} {r : Nat} {id : Int} {y : Int} (h : Ps[r]? = some (id, y)) (x : Int) : ((flat payN Ps).set (r * 2 + 1) (.int .i64 x)) = flat payN (Ps.set r (id, x)) := by
  obtain ⟨hr, e⟩ := List.getElem?_eq_some_iff.1 h
  have hA : (flat payN (Ps.take r)).length = r * 2 := by rw [flat_len wideN, List.length_take, Nat.min_eq_left (by omega)]
  have hx : (Ps.set r (id, x))[r]? = some (id, x) := by rw [List.getElem?_set_self (by omega)]
  rw [flat_split h, flat_split hx, List.take_set_of_le (Nat.le_refl r), List.drop_set_of_lt (by omega)]
  rw [List.set_append_right _ _ (by omega)]
  rw [show r * 2 + 1 - (flat payN (Ps.take r)).length = 1 by omega]
  rfl
theorem ownN_set {W : World} {v : Value} {g : Nat} {Ps : List (Int × (Int))} {r : Nat} {id : Int} {y : Int} (h : W.ownsRow 0 227 2 v Ps.length (flat payN Ps)) (hg : v.ownBlock = some g) (hy : Ps[r]? = some (id, y)) (x : Int) :
    (W.setCell ⟨g, r * 2 + 1, none⟩ (.int .i64 x)).ownsRow 0 227 2 v (Ps.set r (id, x)).length (flat payN (Ps.set r (id, x))) := by
  have hl : (flat payN Ps).length = Ps.length * 2 := flat_len wideN Ps
  have hr := (List.getElem?_eq_some_iff.1 hy).1
  rw [← setN_flat hy x, List.length_set]
  exact own_setN h hg _ _ (by omega)
theorem tabN_set {W : World} {b : Nat} {v : Value} {g : Nat} {Ps : List (Int × (Int))} {room : Int} {r : Nat} {id : Int} {y : Int} (h : TabN W b v Ps room) (hg : v.ownBlock = some g) (hy : Ps[r]? = some (id, y)) (x : Int) :
    TabN (W.setCell ⟨g, r * 2 + 1, none⟩ (.int .i64 x)) b v (Ps.set r (id, x)) room := by
  have hbg : b ≠ g := fun e => h.notin (by rw [hg, e]; simp)
  refine ⟨h.hd.other _ _ hbg, ownN_set h.own hg hy x, h.nn, up_set h.up hy, fun p hp => ?_, by rw [List.length_set]; exact h.lim⟩
  rcases List.mem_or_eq_of_mem_set hp with hp | rfl
  · exact h.ids p hp
  · exact h.ids (id, y) (List.mem_of_getElem? hy)
theorem tabN_ins {W : World} {b : Nat} {v0 v' : Value} {Ps : List (Int × (Int))} {room id : Int} {x : Int} (hb : Blk W b #[.int .i64 room, v0] 215)
    (ho : W.ownsRow 0 227 2 v' (Ps.length + 1) (flat payN (insAt Ps id x))) (hnn : v'.ownBlock ≠ none) (hne : ∀ g, v'.ownBlock = some g → g ≠ b) (hu : Up Ps) (hids : ∀ p ∈ Ps, U32 p.1) (hi : U32 id) (hh : hasId Ps id = false) (hl : (Ps.length : Int) < room) (h6 : room ≤ 65536) :
    TabN (W.setCell ⟨b, 1, none⟩ v') b v' (insAt Ps id x) room := by
  have hlen : (insAt Ps id x).length = Ps.length + 1 := by
    have := rank_le Ps id
    simp [insAt]; omega
  refine ⟨hb.set 1 v', ?_, hnn, up_ins hu x hh, fun p hp => ?_, by rw [hlen]; omega⟩
  · rw [hlen]
    exact own_fr ho ((Fr.refl [b] W).setCell _ _ (.inl (by simp))) (fun g e => by have := hne g e; simp; exact this)
  · unfold insAt at hp
    rcases List.mem_append.1 hp with hp | hp
    · exact hids p (List.mem_of_mem_take hp)
    · rcases List.mem_cons.1 hp with rfl | hp
      · exact hi
      · exact hids p (List.mem_of_mem_drop hp)
def PutNPost (w : World) (b : Nat) (v : Value) (Qs : List (Int × (Int))) (room : Int) (a : Value) (e : Ending) (w' : World) : Prop :=
  e = .returned (.tuple #[a, .int .i64 0]) ∧ ∃ v', TabN w' b v' Qs room ∧ (v'.ownBlock = v.ownBlock ∨ ∃ g, v'.ownBlock = some g ∧ w.heap.size ≤ g) ∧ Fr (b :: v.ownBlock.toList) w w'
set_option maxRecDepth 100000 in
set_option maxHeartbeats 1000000 in
theorem putN_old (w : World) (b : Nat) (v : Value) (Ps : List (Int × (Int))) (room id : Int) (x y : Int) (h : TabN w b v Ps room) (hi : U32 id) (hx : Ps[rank Ps id]? = some (id, y)) :
    Calls Tryd.prog 136 #[.pointer (some ⟨b, 0, none⟩), .int .u32 id, .int .i64 x] w (PutNPost w b v (Ps.set (rank Ps id) (id, x)) room (.int .i64 y)) := by
  have hL := findN_any _ b v Ps room id h hi
  obtain ⟨r, hr⟩ : ∃ r, r = rank Ps id := ⟨_, rfl⟩
  have hh : hasId Ps id = true := (has_at h.up id).2 ⟨y, hx⟩
  rw [hh] at hL
  rw [← hr] at hL hx ⊢
  have HL := Lib.hid hL
  have HH := Lib.hid h
  have HX := Lib.hid hx
  clear h hL hh hx hr hi
  go_enter Tryd.func136, Tryd.ntmps136
  go_wp2_with fail
  (with_reducible refine (liveN_any _ b _ Ps room HH.out).mono ?_)
  rintro e w1 ⟨rfl, rfl⟩
  go_wp2_with fail
  (with_reducible refine (HL.out).mono ?_)
  rintro e w1 ⟨rfl, f1⟩
  have h1 := HH.out.grow f1
  obtain ⟨g, cap, rfl, hc1, hc2, hc3, hrw⟩ := h1.row
  have d0 := h1.hd.at 0 (v := .int .i64 room) rfl
  have d1 := h1.hd.at 1 (v := .slice (some ⟨g, 0, none⟩) Ps.length cap) rfl
  have hrl := (List.getElem?_eq_some_iff.1 HX.out).1
  obtain ⟨c0, c1⟩ := hrw.at HX.out
  dsimp only at c0 c1
  obtain ⟨n, hn⟩ : ∃ n, n = Ps.length := ⟨_, rfl⟩
  rw [← hn] at d1 hrl
  have g0 : (0 : Int) ≤ (r : Int) := by omega
  have g1 : (r : Int) < (n : Int) := by omega
  have hown := h1.own
  have fz : ∀ j, w1.frozen? ⟨g, j, none⟩ = false := fun j => by
    rcases hown.2 with ⟨hh, _⟩ | ⟨g', _, _, hh, _, hgg, _⟩
    · cases hh
    · cases hh; exact Blk.free hgg j
  have HG := Lib.hid (And.intro f1 h1)
  clear h1 hrw hn hrl f1 hc1 hc2 hc3 hown
  go_wp2_with fail
  refine bodyPost_ret (v := .tuple #[.int .i64 y, .int .i64 0]) (by simp [results, Tryd.results136, go_sem]) rfl ?_
  refine ⟨rfl, _, tabN_set HG.out.2 rfl HX.out x, .inl rfl, ?_⟩
  exact (HG.out.1.mono (by simp)).setCell _ _ (.inl (by simp [Value.ownBlock]))
set_option maxRecDepth 100000 in
set_option maxHeartbeats 1000000 in
theorem putN_full (w : World) (b : Nat) (v : Value) (Ps : List (Int × (Int))) (room id : Int) (x : Int) (h : TabN w b v Ps room) (hi : U32 id) (hh : hasId Ps id = false) (hlen : room ≤ (Ps.length : Int)) :
    Calls Tryd.prog 136 #[.pointer (some ⟨b, 0, none⟩), .int .u32 id, .int .i64 x] w fun e w' => e = .returned (.tuple #[.int .i64 0, .int .i64 5]) ∧ Fr [] w w' := by
  have hL := findN_any _ b v Ps room id h hi
  obtain ⟨r, hr⟩ : ∃ r, r = rank Ps id := ⟨_, rfl⟩
  rw [hh] at hL
  rw [← hr] at hL
  have HL := Lib.hid hL
  have HH := Lib.hid h
  clear h hL hr hi hh
  go_enter Tryd.func136, Tryd.ntmps136
  go_wp2_with fail
  (with_reducible refine (liveN_any _ b _ Ps room HH.out).mono ?_)
  rintro e w1 ⟨rfl, rfl⟩
  go_wp2_with fail
  (with_reducible refine (HL.out).mono ?_)
  rintro e w1 ⟨rfl, f1⟩
  have h1 := HH.out.grow f1
  obtain ⟨g, cap, rfl, hc1, hc2, hc3, hrw⟩ := h1.row
  have d0 := h1.hd.at 0 (v := .int .i64 room) rfl
  have d1 := h1.hd.at 1 (v := .slice (some ⟨g, 0, none⟩) Ps.length cap) rfl
  obtain ⟨n, hn⟩ : ∃ n, n = Ps.length := ⟨_, rfl⟩
  rw [← hn] at d1 hlen
  have HG := Lib.hid f1
  clear h1 hrw hn f1 hc1 hc2 hc3
  go_wp2_with fail
  go_region
  simp only [Exit.then]
  go_wp2_with fail
  refine bodyPost_ret (v := .tuple #[.int .i64 0, .int .i64 5]) (by simp [results, Tryd.results136, go_sem]) rfl ⟨rfl, HG.out.drew⟩
set_option maxRecDepth 100000 in
set_option maxHeartbeats 1000000 in
theorem putN_new (w : World) (b : Nat) (v : Value) (Ps : List (Int × (Int))) (room id : Int) (x : Int) (h : TabN w b v Ps room) (hi : U32 id) (hh : hasId Ps id = false) (hlen : ¬ room ≤ (Ps.length : Int)) :
    Calls Tryd.prog 136 #[.pointer (some ⟨b, 0, none⟩), .int .u32 id, .int .i64 x] w (PutNPost w b v (insAt Ps id x) room (.int .i64 0)) := by
  have hL := findN_any _ b v Ps room id h hi
  obtain ⟨r, hr⟩ : ∃ r, r = rank Ps id := ⟨_, rfl⟩
  have HI := Lib.hid (And.intro hi hh)
  rw [hh] at hL
  rw [← hr] at hL
  have HR := Lib.hid hr
  have HL := Lib.hid hL
  have HH := Lib.hid h
  clear h hL hr hi hh
  go_enter Tryd.func136, Tryd.ntmps136
  go_wp2_with fail
  (with_reducible refine (liveN_any _ b _ Ps room HH.out).mono ?_)
  rintro e w1 ⟨rfl, rfl⟩
  go_wp2_with fail
  (with_reducible refine (HL.out).mono ?_)
  rintro e w1 ⟨rfl, f1⟩
  have h1 := HH.out.grow f1
  obtain ⟨g, cap, rfl, hc1, hc2, hc3, hrw⟩ := h1.row
  have d0 := h1.hd.at 0 (v := .int .i64 room) rfl
  have d1 := h1.hd.at 1 (v := .slice (some ⟨g, 0, none⟩) Ps.length cap) rfl
  obtain ⟨n, hn⟩ : ∃ n, n = Ps.length := ⟨_, rfl⟩
  rw [← hn] at d1 hlen
  have hrn : r ≤ n := by rw [HR.out, hn]; exact rank_le _ _
  have hl6 : n < 65536 := by have := h1.lim; rw [← hn] at this; omega
  have hgb : g ≠ b := fun e => h1.notin (by simp [Value.ownBlock, e])
  have fb := h1.hd.free 1
  have HG := Lib.hid (And.intro f1 (And.intro h1 (And.intro hn (And.intro hgb (And.intro hrn (And.intro hl6 hc3))))))
  have f2 : Fr [] w1 (w1.alloc (.cells #[.int .u32 id, .int .i64 x] 227)).drew := ((Fr.refl _ _).alloc _).drew
  have hI := insN_any (w1.alloc (.cells #[.int .u32 id, .int .i64 x] 227)).drew (.slice (some ⟨g, 0, none⟩) Ps.length cap) Ps r id x w1.heap.size (h1.grow f2).own h1.nn (by rw [← hn]; exact hrn) (by rw [← hn]; exact hl6) (Blk.new w1 _ _) (by simp [Value.ownBlock]; omega)
  rw [← hn] at hI
  have HINS := Lib.hid hI
  have HW2 := Lib.hid f2
  clear h1 hrw hn f1 hc1 hc2 hc3 hrn hl6 hgb hI f2
  go_wp2_with fail
  go_region
  simp only [Exit.then]
  go_wp2_with fail
  (with_reducible refine (HINS.out).mono ?_)
  intro e w5 hip
  obtain ⟨v', rfl, ho, hnn, hpl, hf⟩ := hip
  obtain ⟨hf1, h1, hn, hgb, hrn, hl6, hgw⟩ := HG.out
  have hb5 := hf.blk (HW2.out.blk h1.hd (by simp)) (by simp [Value.ownBlock]; exact fun e => hgb e.symm)
  obtain ⟨gq, cpq, rfl⟩ := own_succ ho
  have c5 := hb5.at 1 (v := .slice (some ⟨g, 0, none⟩) Ps.length cap) rfl
  have e5 := hb5.free 1
  have HQ := Lib.hid (And.intro ho (And.intro hnn (And.intro hpl (And.intro hf hb5))))
  clear ho hnn hpl hf hb5 hf1 h1 hn hgb hrn hl6 hgw d0 d1 fb
  go_wp2_with fail
  refine bodyPost_ret (v := .tuple #[.int .i64 0, .int .i64 0]) (by simp [results, Tryd.results136, go_sem]) rfl ?_
  obtain ⟨ho, hnn, hpl, hf, hb5⟩ := HQ.out
  obtain ⟨hf1, h1, hn, hgb, hrn, hl6, hgw⟩ := HG.out
  have hsz : w1.heap.size ≤ (w1.alloc (.cells #[.int .u32 id, .int .i64 x] 227)).drew.heap.size := HW2.out.size
  have hbw := h1.hd.lt
  have hins : flat payN (Ps.take r ++ (id, x) :: Ps.drop r) = flat payN (insAt Ps id x) := by unfold insAt; rw [← HR.out]
  rw [hins] at ho
  refine ⟨rfl, _, tabN_ins hb5 ho hnn (fun g2 e => ?_) h1.up h1.ids HI.out.1 HI.out.2 (by rw [← hn]; omega) h1.lim.2, ?_, ?_⟩
  · rcases hpl with q | ⟨g', q, hge⟩
    · rw [q] at e; simp [Value.ownBlock] at e; subst e; exact hgb
    · rw [q] at e; cases e; omega
  · rcases hpl with q | ⟨g', q, hge⟩
    · exact .inl q
    · exact .inr ⟨g', q, Nat.le_trans hf1.size (Nat.le_trans hsz hge)⟩
  · have hw2 := (hf1.trans HW2.out (by simp)).mono (T := [b, g]) (by simp)
    exact (hw2.trans hf (fun y hy => .inl (by simp [Value.ownBlock] at hy; simp [hy]))).setCell _ _ (.inl (by simp))
end Go.Proofs.YtgoolkgjcmdilaaDoor
