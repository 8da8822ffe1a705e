/-
  Tables of V: Put.
-/
import Derived.Test.YtgoolkgjcmdilaaDoorTabVD
import Derived.Test.YtgoolkgjcmdilaaDoorInv
import Derived.BigRegion
import Derived.Deep.CutBlock
import Derived.Deep.DeepCutAuto
namespace Go.Proofs.YtgoolkgjcmdilaaDoor
open Go.RowKit
set_option linter.unusedVariables false
set_option linter.unusedSimpArgs false
attribute [local go_sem] Oper.semAt_some

theorem own_set {w : World} {e : TypeId} {K n g : Nat} {v : Value} {xs : List Value} (h : w.ownsRow 0 e K v n xs) (hg : v.ownBlock = some g) (j : Nat) (u : Value) (hj : j < xs.length) : (w.setCell ⟨g, j, none⟩ u).ownsRow 0 e K v n (xs.set j u) := by
  refine ⟨by rw [List.length_set]; exact h.1, ?_⟩
  rcases h.2 with ⟨rfl, _⟩ | ⟨g', cap, cur, rfl, hb, hgg, hnc, hm, hcs, htake⟩
  · simp [Value.ownBlock] at hg
  · simp [Value.ownBlock] at hg
    subst hg
    refine .inr ⟨g', cap, cur.setIfInBounds j u, rfl, hb, Blk.set hgg j u, hnc, hm, by simpa using hcs, ?_⟩
    rw [Array.toList_setIfInBounds, List.take_set, htake]
theorem setV_flat {Ps : List (Int × (Int × ByteArray))} {r : Nat} {id : Int} {y : Int × ByteArray} (h : Ps[r]? = some (id, y)) (x : Int × ByteArray) : (((flat payV Ps).set (r * 3 + 1) (.int .i64 x.1)).set (r * 3 + 2) (.string x.2)) = flat payV (Ps.set r (id, x)) := by
  obtain ⟨hr, e⟩ := List.getElem?_eq_some_iff.1 h
  have hA : (flat payV (Ps.take r)).length = r * 3 := by rw [flat_len wideV, List.length_take, Nat.min_eq_left (by omega)]
  have hx : (Ps.set r (id, x))[r]? = some (id, x) := by rw [List.getElem?_set_self (by omega)]
  rw [flat_split h, flat_split hx, List.take_set_of_le (Nat.le_refl r), List.drop_set_of_lt (by omega)]
  rw [List.set_append_right _ _ (by omega)]; rw [List.set_append_right _ _ (by omega)]
  rw [show r * 3 + 1 - (flat payV (Ps.take r)).length = 1 by omega, show r * 3 + 2 - (flat payV (Ps.take r)).length = 2 by omega]
  rfl
theorem ownV_set {W : World} {v : Value} {g : Nat} {Ps : List (Int × (Int × ByteArray))} {r : Nat} {id : Int} {y : Int × ByteArray} (h : W.ownsRow 0 143 3 v Ps.length (flat payV Ps)) (hg : v.ownBlock = some g) (hy : Ps[r]? = some (id, y)) (x : Int × ByteArray) :
    ((W.setCell ⟨g, r * 3 + 1, none⟩ (.int .i64 x.1)).setCell ⟨g, r * 3 + 2, none⟩ (.string x.2)).ownsRow 0 143 3 v (Ps.set r (id, x)).length (flat payV (Ps.set r (id, x))) := by
  have hl : (flat payV Ps).length = Ps.length * 3 := flat_len wideV Ps
  have hr := (List.getElem?_eq_some_iff.1 hy).1
  rw [← setV_flat hy x, List.length_set]
  exact own_set (own_set h hg _ _ (by omega)) hg _ _ (by rw [List.length_set]; omega)
theorem tabV_set {W : World} {b : Nat} {v : Value} {g : Nat} {Ps : List (Int × (Int × ByteArray))} {room : Int} {r : Nat} {id : Int} {y : Int × ByteArray} (h : TabV W b v Ps room) (hg : v.ownBlock = some g) (hy : Ps[r]? = some (id, y)) (x : Int × ByteArray) :
    TabV ((W.setCell ⟨g, r * 3 + 1, none⟩ (.int .i64 x.1)).setCell ⟨g, r * 3 + 2, none⟩ (.string x.2)) b v (Ps.set r (id, x)) room := by
  have hbg : b ≠ g := fun e => h.notin (by rw [hg, e]; simp)
  refine ⟨(h.hd.other _ _ hbg).other _ _ hbg, ownV_set h.own hg hy x, h.nn, up_set h.up hy, fun p hp => ?_, by rw [List.length_set]; exact h.lim⟩
  rcases List.mem_or_eq_of_mem_set hp with hp | rfl
  · exact h.ids p hp
  · exact h.ids (id, y) (List.mem_of_getElem? hy)
theorem tabV_ins {W : World} {b : Nat} {v0 v' : Value} {Ps : List (Int × (Int × ByteArray))} {room id : Int} {x : Int × ByteArray} (hb : Blk W b #[.int .i64 room, v0] 68)
    (ho : W.ownsRow 0 143 3 v' (Ps.length + 1) (flat payV (insAt Ps id x))) (hnn : v'.ownBlock ≠ none) (hne : ∀ g, v'.ownBlock = some g → g ≠ b) (hu : Up Ps) (hids : ∀ p ∈ Ps, U32 p.1) (hi : U32 id) (hh : hasId Ps id = false) (hl : (Ps.length : Int) < room) (h6 : room ≤ 65536) :
    TabV (W.setCell ⟨b, 1, none⟩ v') b v' (insAt Ps id x) room := by
  have hlen : (insAt Ps id x).length = Ps.length + 1 := by
    have := rank_le Ps id
    simp [insAt]; omega
  refine ⟨hb.set 1 v', ?_, hnn, up_ins hu x hh, fun p hp => ?_, by rw [hlen]; omega⟩
  · rw [hlen]
    exact own_fr ho ((Fr.refl [b] W).setCell _ _ (.inl (by simp))) (fun g e => by have := hne g e; simp; exact this)
  · unfold insAt at hp
    rcases List.mem_append.1 hp with hp | hp
    · exact hids p (List.mem_of_mem_take hp)
    · rcases List.mem_cons.1 hp with rfl | hp
      · exact hi
      · exact hids p (List.mem_of_mem_drop hp)
def PutVPost (w : World) (b : Nat) (v : Value) (Qs : List (Int × (Int × ByteArray))) (room : Int) (a : Value) (e : Ending) (w' : World) : Prop :=
  e = .returned (.tuple #[a, .int .i64 0]) ∧ ∃ v', TabV w' b v' Qs room ∧ (v'.ownBlock = v.ownBlock ∨ ∃ g, v'.ownBlock = some g ∧ w.heap.size ≤ g) ∧ Fr (b :: v.ownBlock.toList) w w'
set_option maxRecDepth 100000 in
set_option maxHeartbeats 1000000 in
theorem putV_old (w : World) (b : Nat) (v : Value) (Ps : List (Int × (Int × ByteArray))) (room id : Int) (x y : Int × ByteArray) (h : TabV w b v Ps room) (hi : U32 id) (hx : Ps[rank Ps id]? = some (id, y)) :
    Calls Tryd.prog 13 #[.pointer (some ⟨b, 0, none⟩), .int .u32 id, .agg #[.int .i64 x.1, .string x.2]] w (PutVPost w b v (Ps.set (rank Ps id) (id, x)) room (.agg #[.int .i64 y.1, .string y.2])) := by
  have F0 := (((Fr.refl [] w).alloc (.cells #[.int .i64 x.1, .string x.2] 29)).alloc (.cells #[.int .i64 0, .string ⟨#[]⟩] 29)).alloc (.cells #[.int .i64 0, .string ⟨#[]⟩] 29)
  have h2 := h.grow F0
  have hL := findV_any _ b v Ps room id h2 hi
  obtain ⟨r, hr⟩ : ∃ r, r = rank Ps id := ⟨_, rfl⟩
  have hh : hasId Ps id = true := (has_at h.up id).2 ⟨y, hx⟩
  rw [hh] at hL
  rw [← hr] at hL hx ⊢
  have HL := Lib.hid hL
  have HH := Lib.hid h2
  have HX := Lib.hid hx
  have z0 := Blk.new_at (w := (w.alloc (.cells #[.int .i64 x.1, .string x.2] 29)).alloc (.cells #[.int .i64 0, .string ⟨#[]⟩] 29)) (k := w.heap.size + 1 + 1) (by simp) #[.int .i64 0, .string ⟨#[]⟩] 29
  have z1 := (Blk.new_at (w := w.alloc (.cells #[.int .i64 x.1, .string x.2] 29)) (k := w.heap.size + 1) (by simp) #[.int .i64 0, .string ⟨#[]⟩] 29).alloc (.cells #[.int .i64 0, .string ⟨#[]⟩] 29)
  have z2 := ((Blk.new w #[.int .i64 x.1, .string x.2] 29).alloc (.cells #[.int .i64 0, .string ⟨#[]⟩] 29)).alloc (.cells #[.int .i64 0, .string ⟨#[]⟩] 29)
  have HF := Lib.hid (And.intro F0 (And.intro z1 (And.intro z0 z2)))
  have HW := Lib.hid h
  clear h h2 hL hh hx hr z0 z1 z2 F0 hi
  go_enter Tryd.func13, Tryd.ntmps13
  go_wp2_with fail
  (with_reducible refine (liveV_any _ b _ Ps room HH.out).mono ?_)
  rintro e w1 ⟨rfl, rfl⟩
  go_wp2_with fail
  (with_reducible refine (HL.out).mono ?_)
  rintro e w1 ⟨rfl, f1⟩
  have h1 := HH.out.grow f1
  obtain ⟨g, cap, rfl, hc1, hc2, hc3, hr⟩ := h1.row
  have d1 := h1.hd.at 1 (v := .slice (some ⟨g, 0, none⟩) Ps.length cap) rfl
  have hrl := (List.getElem?_eq_some_iff.1 HX.out).1
  obtain ⟨c0, c1, c2⟩ := hr.at HX.out
  dsimp only at c0 c1 c2
  obtain ⟨n, hn⟩ : ∃ n, n = Ps.length := ⟨_, rfl⟩
  rw [← hn] at d1 hrl
  have HN := Lib.hid hn
  have g0 : (0 : Int) ≤ (r : Int) := by omega
  have g1 : (r : Int) < (n : Int) := by omega
  have zb := f1.blk HF.out.2.1 (by simp)
  have zn := f1.blk HF.out.2.2.1 (by simp)
  have zx := f1.blk HF.out.2.2.2 (by simp)
  have hown := h1.own
  have fz : ∀ j, w1.frozen? ⟨g, j, none⟩ = false := fun j => by
    rcases hown.2 with ⟨hh, _⟩ | ⟨g', _, _, hh, _, hgg, _⟩
    · cases hh
    · cases hh; exact Blk.free hgg j
  have HG := Lib.hid (And.intro (HF.out.1.trans f1 (by simp)) (And.intro h1 (And.intro zb (And.intro zn zx))))
  have y0 := zb.at 0 (v := .int .i64 0) rfl
  have v0 := zb.free 0
  have y1 := zb.at 1 (v := .string ⟨#[]⟩) rfl
  have v1 := zb.free 1
  have q0 := zn.at 0 (v := .int .i64 0) rfl
  have q1 := zn.at 1 (v := .string ⟨#[]⟩) rfl
  have x0 := zx.at 0 (v := .int .i64 x.1) rfl
  have x1 := zx.at 1 (v := .string x.2) rfl
  obtain ⟨z9, hz9⟩ : ∃ z, z = w1.heap.size := ⟨_, rfl⟩
  have N4 := Lib.hid (show ¬ z9 = g by omega)
  clear hr hn hrl f1 hc1 hc2 hc3 zb zn zx hown
  go_upto_region 7 with fail
  have f2 : Fr [] w1 (w1.alloc (.cells #[.int .i64 y.1, .string y.2] 29)) := (Fr.refl _ _).alloc _
  have k9 := Blk.new w1 #[.int .i64 y.1, .string y.2] 29
  simp only [← hz9] at *
  clear hz9
  generalize w1.alloc _ = w2 at *
  have hy1 := h1.grow f2
  clear d1 c0 c1 c2 y0 v0 q0 x0 y1 v1 q1 x1 h1 fz
  obtain ⟨g', cap', hgc, hc1, hc2, hc3, hr⟩ := hy1.row
  cases hgc
  have d1 := hy1.hd.at 1 (v := .slice (some ⟨g, 0, none⟩) Ps.length cap) rfl
  rw [← HN.out] at d1
  obtain ⟨c0, c1, c2⟩ := hr.at HX.out
  dsimp only at c0 c1 c2
  have hown := hy1.own
  have fz : ∀ j, w2.frozen? ⟨g, j, none⟩ = false := fun j => by
    rcases hown.2 with ⟨hh, _⟩ | ⟨g', _, _, hh, _, hgg, _⟩
    · cases hh
    · cases hh; exact Blk.free hgg j
  have zb := f2.blk HG.out.2.2.1 (by simp)
  have zn := f2.blk HG.out.2.2.2.1 (by simp)
  have zx := f2.blk HG.out.2.2.2.2 (by simp)
  have HK := Lib.hid (And.intro (HG.out.1.trans f2 (by simp)) (And.intro hy1 (And.intro zb (And.intro k9 hc3))))
  have y0 := zb.at 0 (v := .int .i64 0) rfl
  have v0 := zb.free 0
  have y1 := zb.at 1 (v := .string ⟨#[]⟩) rfl
  have v1 := zb.free 1
  have q0 := zn.at 0 (v := .int .i64 0) rfl
  have q1 := zn.at 1 (v := .string ⟨#[]⟩) rfl
  have x0 := zx.at 0 (v := .int .i64 x.1) rfl
  have x1 := zx.at 1 (v := .string x.2) rfl
  have k0 := k9.at 0 (v := .int .i64 y.1) rfl
  have k1 := k9.at 1 (v := .string y.2) rfl
  clear hr hc1 hc2 hc3 zb zn zx hown hy1 k9 f2 HG HF HH HL
  have hgw : g < w.heap.size := own_lt HW.out.own rfl
  have n1 : ¬ w.heap.size + 1 = g := by omega
  have n2 : ¬ w.heap.size + 1 + 1 = g := by omega
  have n3 : ¬ w.heap.size = g := by omega
  have n4 := N4.out
  clear hgw
  go_region
  simp only [Exit.then]
  go_wp2_with fail
  refine bodyPost_ret (v := .tuple #[.agg #[.int .i64 y.1, .string y.2], .int .i64 0]) (by simp [results, Tryd.results13, go_sem, n1, y0, y1]) rfl ?_
  obtain ⟨hf, ht, hb6, hk9, hgz⟩ := HK.out
  have ht3 := tabV_set ht rfl HX.out x
  refine ⟨rfl, _, TabV.fr (S := [w.heap.size + 1]) ht3 ?_ ?_ ?_, .inl rfl, ?_⟩
  · exact (((((Fr.refl _ _).drew).setCell ⟨w.heap.size + 1, 0, none⟩ (.int .i64 y.1) (.inl (by simp)))).setCell ⟨w.heap.size + 1, 1, none⟩ (.string y.2) (.inl (by simp)))
  · have := HW.out.hd.lt; simp; omega
  · intro g2 hg2; simp [Value.ownBlock] at hg2; subst hg2; simp; omega
  · exact (((((((hf.mono (by simp)).setCell ⟨g, r * 3 + 1, none⟩ (.int .i64 x.1) (.inl (by simp [Value.ownBlock]))).setCell ⟨g, r * 3 + 2, none⟩ (.string x.2) (.inl (by simp [Value.ownBlock]))).drew).setCell ⟨w.heap.size + 1, 0, none⟩ (.int .i64 y.1) (.inr (by simp)))).setCell ⟨w.heap.size + 1, 1, none⟩ (.string y.2) (.inr (by simp)))
set_option maxRecDepth 100000 in
set_option maxHeartbeats 1000000 in
theorem putV_full (w : World) (b : Nat) (v : Value) (Ps : List (Int × (Int × ByteArray))) (room id : Int) (x : Int × ByteArray) (h : TabV w b v Ps room) (hi : U32 id) (hh : hasId Ps id = false) (hlen : room ≤ (Ps.length : Int)) :
    Calls Tryd.prog 13 #[.pointer (some ⟨b, 0, none⟩), .int .u32 id, .agg #[.int .i64 x.1, .string x.2]] w fun e w' => e = .returned (.tuple #[.agg #[.int .i64 0, .string ⟨#[]⟩], .int .i64 5]) ∧ Fr [] w w' := by
  have F0 := (((Fr.refl [] w).alloc (.cells #[.int .i64 x.1, .string x.2] 29)).alloc (.cells #[.int .i64 0, .string ⟨#[]⟩] 29)).alloc (.cells #[.int .i64 0, .string ⟨#[]⟩] 29)
  have h2 := h.grow F0
  have hL := findV_any _ b v Ps room id h2 hi
  obtain ⟨r, hr⟩ : ∃ r, r = rank Ps id := ⟨_, rfl⟩
  rw [hh] at hL
  have hhid := Lib.hid hh
  rw [← hr] at hL
  have hr0 := Lib.hid hr
  have HL := Lib.hid hL
  have HH := Lib.hid h2
  have z0 := Blk.new_at (w := (w.alloc (.cells #[.int .i64 x.1, .string x.2] 29)).alloc (.cells #[.int .i64 0, .string ⟨#[]⟩] 29)) (k := w.heap.size + 1 + 1) (by simp) #[.int .i64 0, .string ⟨#[]⟩] 29
  have z1 := (Blk.new_at (w := w.alloc (.cells #[.int .i64 x.1, .string x.2] 29)) (k := w.heap.size + 1) (by simp) #[.int .i64 0, .string ⟨#[]⟩] 29).alloc (.cells #[.int .i64 0, .string ⟨#[]⟩] 29)
  have z2 := ((Blk.new w #[.int .i64 x.1, .string x.2] 29).alloc (.cells #[.int .i64 0, .string ⟨#[]⟩] 29)).alloc (.cells #[.int .i64 0, .string ⟨#[]⟩] 29)
  have HF := Lib.hid (And.intro F0 (And.intro z1 (And.intro z0 z2)))
  have HW := Lib.hid h
  have HI := Lib.hid hi
  clear h h2 hL hh hr z0 z1 z2 F0 hi
  go_enter Tryd.func13, Tryd.ntmps13
  go_wp2_with fail
  (with_reducible refine (liveV_any _ b _ Ps room HH.out).mono ?_)
  rintro e w1 ⟨rfl, rfl⟩
  go_wp2_with fail
  (with_reducible refine (HL.out).mono ?_)
  rintro e w1 ⟨rfl, f1⟩
  have h1 := HH.out.grow f1
  obtain ⟨g, cap, rfl, hc1, hc2, hc3, hr⟩ := h1.row
  have d0 := h1.hd.at 0 (v := .int .i64 room) rfl
  have d1 := h1.hd.at 1 (v := .slice (some ⟨g, 0, none⟩) Ps.length cap) rfl
  obtain ⟨n, hn⟩ : ∃ n, n = Ps.length := ⟨_, rfl⟩
  rw [← hn] at d1 hlen
  have HN := Lib.hid hn
  have zb := f1.blk HF.out.2.1 (by simp)
  have zn := f1.blk HF.out.2.2.1 (by simp)
  have zx := f1.blk HF.out.2.2.2 (by simp)
  have HG := Lib.hid (And.intro (HF.out.1.trans f1 (by simp)) (And.intro h1 (And.intro zb (And.intro zn zx))))
  have y0 := zb.at 0 (v := .int .i64 0) rfl
  have v0 := zb.free 0
  have y1 := zb.at 1 (v := .string ⟨#[]⟩) rfl
  have v1 := zb.free 1
  have q0 := zn.at 0 (v := .int .i64 0) rfl
  have q1 := zn.at 1 (v := .string ⟨#[]⟩) rfl
  have x0 := zx.at 0 (v := .int .i64 x.1) rfl
  have x1 := zx.at 1 (v := .string x.2) rfl
  clear h1 hr hn f1 hc1 hc2 hc3 zb zn zx
  go_wp2_with fail
  go_region
  simp only [Exit.then]
  go_wp2_with fail
  refine bodyPost_ret (v := .tuple #[.agg #[.int .i64 0, .string ⟨#[]⟩], .int .i64 5]) (by simp [results, Tryd.results13, go_sem, y0, y1]) rfl ⟨rfl, ?_⟩
  exact ((((HG.out.1.drew).setCell ⟨w.heap.size + 1, 0, none⟩ (.int .i64 0) (.inr (by simp)))).setCell ⟨w.heap.size + 1, 1, none⟩ (.string ⟨#[]⟩) (.inr (by simp)))
structure PutRgnV (f : Value → Value → Value → Value → Value → Value → Value → Value → Value → Value → Value → Value → Value → Array Value) (w1 : World) (b g n cap r : Nat) (Ps : List (Int × (Int × ByteArray))) (room id : Int) (x : Int × ByteArray) (p : Nat → Prop) (a : Act) (w : World) : Prop where
  ex : ∃ x0 x1 x2 x3 x4 x5 x6 x7 x8 x9 x10 x11 x12, a = { tmps := f x0 x1 x2 x3 x4 x5 x6 x7 x8 x9 x10 x11 x12, defers := [] } ∧ (p 0 → x0 = .pointer (some ⟨b, 0, none⟩)) ∧ (p 1 → x1 = .pointer (some ⟨b, 0, none⟩)) ∧ (p 2 → x2 = .pointer (some ⟨b, 0, none⟩)) ∧ (p 3 → x3 = .pointer (some ⟨b, 1, none⟩)) ∧ (p 4 → x4 = .slice (some ⟨g, 0, none⟩) n cap) ∧ (p 5 → x5 = .int .i64 (r : Nat)) ∧ (p 6 → x6 = .int .u32 id) ∧ (p 7 → x7 = .agg #[.int .i64 x.1, .string x.2]) ∧ (p 8 → p 7 ∧ x8 = .agg #[.int .u32 id, .int .i64 x.1, .string x.2]) ∧ (p 9 → p 7 ∧ (¬ p 10 → ∃ z, x9 = .slice (some ⟨z, 0, none⟩) 1 1 ∧ Blk w z (oneV id x).toArray 143 ∧ w1.heap.size ≤ z)) ∧ (p 10 → p 4 ∧ p 7 ∧ p 9 ∧ (¬ p 13 → w.ownsRow 0 143 3 x10 (Ps.length + 1) (flat payV (insAt Ps id x)) ∧ x10.ownBlock ≠ none ∧ (x10.ownBlock = some g ∨ ∃ g', x10.ownBlock = some g' ∧ w1.heap.size ≤ g') ∧ Fr [g] w1 w)) ∧ (p 11 → x11 = .pointer (some ⟨b, 0, none⟩)) ∧ (p 12 → x12 = .pointer (some ⟨b, 1, none⟩)) ∧ (p 13 → p 10 ∧ ∃ v', TabV w b v' (insAt Ps id x) room ∧ (v'.ownBlock = some g ∨ ∃ g', v'.ownBlock = some g' ∧ w1.heap.size ≤ g') ∧ Fr [b, g] w1 w)
  fr : ¬ p 10 → Fr [] w1 w
set_option maxRecDepth 100000 in
set_option maxHeartbeats 4000000 in
theorem putV_new (w : World) (b : Nat) (v : Value) (Ps : List (Int × (Int × ByteArray))) (room id : Int) (x : Int × ByteArray) (h : TabV w b v Ps room) (hi : U32 id) (hh : hasId Ps id = false) (hlen : ¬ room ≤ (Ps.length : Int)) :
    Calls Tryd.prog 13 #[.pointer (some ⟨b, 0, none⟩), .int .u32 id, .agg #[.int .i64 x.1, .string x.2]] w (PutVPost w b v (insAt Ps id x) room (.agg #[.int .i64 0, .string ⟨#[]⟩])) := by
  have F0 := (((Fr.refl [] w).alloc (.cells #[.int .i64 x.1, .string x.2] 29)).alloc (.cells #[.int .i64 0, .string ⟨#[]⟩] 29)).alloc (.cells #[.int .i64 0, .string ⟨#[]⟩] 29)
  have h2 := h.grow F0
  have hL := findV_any _ b v Ps room id h2 hi
  obtain ⟨r, hr⟩ : ∃ r, r = rank Ps id := ⟨_, rfl⟩
  rw [hh] at hL
  have hhid := Lib.hid hh
  rw [← hr] at hL
  have hr0 := Lib.hid hr
  have HL := Lib.hid hL
  have HH := Lib.hid h2
  have z0 := Blk.new_at (w := (w.alloc (.cells #[.int .i64 x.1, .string x.2] 29)).alloc (.cells #[.int .i64 0, .string ⟨#[]⟩] 29)) (k := w.heap.size + 1 + 1) (by simp) #[.int .i64 0, .string ⟨#[]⟩] 29
  have z1 := (Blk.new_at (w := w.alloc (.cells #[.int .i64 x.1, .string x.2] 29)) (k := w.heap.size + 1) (by simp) #[.int .i64 0, .string ⟨#[]⟩] 29).alloc (.cells #[.int .i64 0, .string ⟨#[]⟩] 29)
  have z2 := ((Blk.new w #[.int .i64 x.1, .string x.2] 29).alloc (.cells #[.int .i64 0, .string ⟨#[]⟩] 29)).alloc (.cells #[.int .i64 0, .string ⟨#[]⟩] 29)
  have HF := Lib.hid (And.intro F0 (And.intro z1 (And.intro z0 z2)))
  have HW := Lib.hid h
  have HI := Lib.hid hi
  clear h h2 hL hh hr z0 z1 z2 F0 hi
  go_enter Tryd.func13, Tryd.ntmps13
  go_wp2_with fail
  (with_reducible refine (liveV_any _ b _ Ps room HH.out).mono ?_)
  rintro e w1 ⟨rfl, rfl⟩
  go_wp2_with fail
  (with_reducible refine (HL.out).mono ?_)
  rintro e w1 ⟨rfl, f1⟩
  have h1 := HH.out.grow f1
  obtain ⟨g, cap, rfl, hc1, hc2, hc3, hr⟩ := h1.row
  have d0 := h1.hd.at 0 (v := .int .i64 room) rfl
  have d1 := h1.hd.at 1 (v := .slice (some ⟨g, 0, none⟩) Ps.length cap) rfl
  obtain ⟨n, hn⟩ : ∃ n, n = Ps.length := ⟨_, rfl⟩
  rw [← hn] at d1 hlen
  have HN := Lib.hid hn
  have zb := f1.blk HF.out.2.1 (by simp)
  have zn := f1.blk HF.out.2.2.1 (by simp)
  have zx := f1.blk HF.out.2.2.2 (by simp)
  have HG := Lib.hid (And.intro (HF.out.1.trans f1 (by simp)) (And.intro h1 (And.intro zb (And.intro zn zx))))
  have y0 := zb.at 0 (v := .int .i64 0) rfl
  have v0 := zb.free 0
  have y1 := zb.at 1 (v := .string ⟨#[]⟩) rfl
  have v1 := zb.free 1
  have q0 := zn.at 0 (v := .int .i64 0) rfl
  have q1 := zn.at 1 (v := .string ⟨#[]⟩) rfl
  have x0 := zx.at 0 (v := .int .i64 x.1) rfl
  have x1 := zx.at 1 (v := .string x.2) rfl
  have hbg : b ≠ g := fun e => h1.notin (by simp [Value.ownBlock, e])
  have HBG := Lib.hid hbg
  have hrn : r ≤ n := by rw [hr0.out, hn]; exact rank_le _ _
  have hl6 : n < 65536 := by have := h1.lim; rw [← hn] at this; omega
  have hgw : g < w1.heap.size := hc3
  have HINS := Lib.hid (show ∀ (W : World) (z : Nat), Fr [] w1 W → Blk W z (oneV id x).toArray 143 → w1.heap.size ≤ z → Calls Tryd.prog 64 #[.slice (some ⟨g, 0, none⟩) n cap, .int .i64 (r : Nat), .slice (some ⟨z, 0, none⟩) 1 1] W (fun e w' => ∃ v', e = .returned v' ∧ w'.ownsRow 0 143 3 v' (Ps.length + 1) (flat payV (insAt Ps id x)) ∧ v'.ownBlock ≠ none ∧ (v'.ownBlock = some g ∨ ∃ g', v'.ownBlock = some g' ∧ W.heap.size ≤ g') ∧ Fr [g] W w') from fun W z hf hz hzs => by
    have hq := insV_any W (.slice (some ⟨g, 0, none⟩) Ps.length cap) Ps r id x z (h1.grow hf).own h1.nn (by rw [← hn]; exact hrn) (by rw [← hn]; exact hl6) hz (by simp [Value.ownBlock]; omega)
    rw [← hn] at hq
    refine hq.mono fun e w' hp => ?_
    obtain ⟨v', he, ho, hnn, hpl, hf⟩ := hp
    refine ⟨v', he, ?_, hnn, ?_, ?_⟩
    · unfold insAt
      rw [← hr0.out]
      exact ho
    · simpa [Value.ownBlock] using hpl
    · simpa [Value.ownBlock] using hf)
  have HTB := Lib.hid (And.intro h1.up (And.intro h1.ids h1.lim))
  have HLN := Lib.hid (show (Ps.length : Int) < room by rw [← hn]; omega)
  have HPL := Lib.hid (show ∀ (x : Value), (x.ownBlock = some g ∨ ∃ g', x.ownBlock = some g' ∧ w1.heap.size ≤ g') → ∀ g2, x.ownBlock = some g2 → g2 ≠ b from fun x hp g2 e => by
    have hbw := h1.hd.lt
    rcases hp with hp | ⟨g', hp, hge⟩
    · rw [hp] at e; cases e; exact fun q => hbg q.symm
    · rw [hp] at e; cases e; omega)
  have HBB := Lib.hid (And.intro (show w.heap.size + 1 ≠ b ∧ w.heap.size + 1 ≠ g ∧ w.heap.size + 1 + 1 ≠ b ∧ w.heap.size + 1 + 1 ≠ g by
    have q1 := HW.out.hd.lt
    have q2 := own_lt HW.out.own (g := g) rfl
    omega) (show b < w.heap.size ∧ g < w.heap.size from ⟨HW.out.hd.lt, own_lt HW.out.own rfl⟩))
  clear h1 hr hn f1 hc1 hc2 hc3 zb zn zx hrn hl6 hgw hbg
  go_wp2_with fail
  go_region
  simp only [Exit.then]
  go_wp2_with fail
  have hGd := HG.out.1.drew
  refine region_inv (by kernel_rfl) (by kernel_rfl) (PutRgnV (fun x0 x1 x2 x3 x4 x5 x6 x7 x8 x9 x10 x11 x12 => #[.pointer (some ⟨b, 0, none⟩), .int .u32 id, .agg #[.int .i64 x.1, .string x.2], undef, undef, .pointer (some ⟨w.heap.size, 0, none⟩), .pointer (some ⟨w.heap.size + 1, 0, none⟩), .int .i64 0, .pointer (some ⟨w.heap.size + 1 + 1, 0, none⟩), .int .i64 (r : Nat), .bool false, undef, .pointer (some ⟨b, 0, none⟩), .bool true, .bool false, undef, .tuple #[.int .i64 (r : Nat), .bool false], .pointer (some ⟨b, 0, none⟩), .int .u32 id, .tuple #[.int .i64 (r : Nat), .bool false], .int .i64 (r : Nat), .bool false, .bool false, .bool false, undef, undef, undef, undef, undef, undef, undef, undef, undef, undef, undef, undef, undef, undef, undef, undef, undef, .bool (decide (room ≤ (n : Int))), .pointer (some ⟨b, 0, none⟩), .pointer (some ⟨b, 0, none⟩), .pointer (some ⟨b, 1, none⟩), .slice (some ⟨g, 0, none⟩) n cap, .int .i64 (n : Nat), .pointer (some ⟨b, 0, none⟩), .pointer (some ⟨b, 0, none⟩), .pointer (some ⟨b, 0, none⟩), .int .i64 room, .bool (decide (room ≤ (n : Int))), undef, x0, x1, x2, x3, x4, x5, x6, x7, x8, x9, x10, x11, x12, undef]) w1 b g n cap r Ps room id x) ?_ ?_ ?_
  · refine ⟨⟨undef, undef, undef, undef, undef, undef, undef, undef, undef, undef, undef, undef, undef, rfl, ?_⟩, fun _ => ((Fr.refl _ _).drew).drew⟩
    simp
  · intro p a W i hi hnp hd hI
    obtain ⟨⟨x0, x1, x2, x3, x4, x5, x6, x7, x8, x9, x10, x11, x12, rfl, g0, g1, g2, g3, g4, g5, g6, g7, g8, g9, g10, g11, g12, g13⟩, hfr0⟩ := hI
    have hcases : i = 0 ∨ i = 1 ∨ i = 2 ∨ i = 3 ∨ i = 4 ∨ i = 5 ∨ i = 6 ∨ i = 7 ∨ i = 8 ∨ i = 9 ∨ i = 10 ∨ i = 11 ∨ i = 12 ∨ i = 13 := by
      have h27 : i < 14 := hi
      omega
    rcases hcases with rfl | rfl | rfl | rfl | rfl | rfl | rfl | rfl | rfl | rfl | rfl | rfl | rfl | rfl
    · refine wpOp_plain (i := 0) rfl rfl (fun K' hK => ?_)
      unfold Oper.wp
      go_simp
      refine hK _ _ ⟨⟨_, _, _, _, _, _, _, _, _, _, _, _, _, rfl, (fun _ => rfl), (fun h => g1 (h.resolve_right (by decide))), (fun h => g2 (h.resolve_right (by decide))), (fun h => g3 (h.resolve_right (by decide))), (fun h => g4 (h.resolve_right (by decide))), (fun h => g5 (h.resolve_right (by decide))), (fun h => g6 (h.resolve_right (by decide))), (fun h => g7 (h.resolve_right (by decide))), (fun h => ⟨.inl (g8 (h.resolve_right (by decide))).1, (g8 (h.resolve_right (by decide))).2⟩), (fun h => ⟨.inl (g9 (h.resolve_right (by decide))).1, fun q => (g9 (h.resolve_right (by decide))).2 (fun a => q (.inl a))⟩), (fun h => ⟨.inl (g10 (h.resolve_right (by decide))).1, .inl (g10 (h.resolve_right (by decide))).2.1, .inl (g10 (h.resolve_right (by decide))).2.2.1, fun q => (g10 (h.resolve_right (by decide))).2.2.2 (fun a => q (.inl a))⟩), (fun h => g11 (h.resolve_right (by decide))), (fun h => g12 (h.resolve_right (by decide))), (fun h => ⟨.inl (g13 (h.resolve_right (by decide))).1, (g13 (h.resolve_right (by decide))).2⟩)⟩, (fun q => hfr0 (fun a => q (.inl a)))⟩
    · refine wpOp_plain (i := 1) rfl rfl (fun K' hK => ?_)
      unfold Oper.wp
      go_simp
      refine hK _ _ ⟨⟨_, _, _, _, _, _, _, _, _, _, _, _, _, rfl, (fun h => g0 (h.resolve_right (by decide))), (fun _ => rfl), (fun h => g2 (h.resolve_right (by decide))), (fun h => g3 (h.resolve_right (by decide))), (fun h => g4 (h.resolve_right (by decide))), (fun h => g5 (h.resolve_right (by decide))), (fun h => g6 (h.resolve_right (by decide))), (fun h => g7 (h.resolve_right (by decide))), (fun h => ⟨.inl (g8 (h.resolve_right (by decide))).1, (g8 (h.resolve_right (by decide))).2⟩), (fun h => ⟨.inl (g9 (h.resolve_right (by decide))).1, fun q => (g9 (h.resolve_right (by decide))).2 (fun a => q (.inl a))⟩), (fun h => ⟨.inl (g10 (h.resolve_right (by decide))).1, .inl (g10 (h.resolve_right (by decide))).2.1, .inl (g10 (h.resolve_right (by decide))).2.2.1, fun q => (g10 (h.resolve_right (by decide))).2.2.2 (fun a => q (.inl a))⟩), (fun h => g11 (h.resolve_right (by decide))), (fun h => g12 (h.resolve_right (by decide))), (fun h => ⟨.inl (g13 (h.resolve_right (by decide))).1, (g13 (h.resolve_right (by decide))).2⟩)⟩, (fun q => hfr0 (fun a => q (.inl a)))⟩
    · have r1 := g1 (hd _ rfl ⟨1, .data⟩ (by simp) rfl)
      subst r1
      refine wpOp_plain (i := 2) rfl rfl (fun K' hK => ?_)
      unfold Oper.wp
      go_simp
      refine hK _ _ ⟨⟨_, _, _, _, _, _, _, _, _, _, _, _, _, rfl, (fun h => g0 (h.resolve_right (by decide))), (fun h => g1 (h.resolve_right (by decide))), (fun _ => rfl), (fun h => g3 (h.resolve_right (by decide))), (fun h => g4 (h.resolve_right (by decide))), (fun h => g5 (h.resolve_right (by decide))), (fun h => g6 (h.resolve_right (by decide))), (fun h => g7 (h.resolve_right (by decide))), (fun h => ⟨.inl (g8 (h.resolve_right (by decide))).1, (g8 (h.resolve_right (by decide))).2⟩), (fun h => ⟨.inl (g9 (h.resolve_right (by decide))).1, fun q => (g9 (h.resolve_right (by decide))).2 (fun a => q (.inl a))⟩), (fun h => ⟨.inl (g10 (h.resolve_right (by decide))).1, .inl (g10 (h.resolve_right (by decide))).2.1, .inl (g10 (h.resolve_right (by decide))).2.2.1, fun q => (g10 (h.resolve_right (by decide))).2.2.2 (fun a => q (.inl a))⟩), (fun h => g11 (h.resolve_right (by decide))), (fun h => g12 (h.resolve_right (by decide))), (fun h => ⟨.inl (g13 (h.resolve_right (by decide))).1, (g13 (h.resolve_right (by decide))).2⟩)⟩, (fun q => hfr0 (fun a => q (.inl a)))⟩
    · have r2 := g2 (hd _ rfl ⟨2, .data⟩ (by simp) rfl)
      subst r2
      refine wpOp_plain (i := 3) rfl rfl (fun K' hK => ?_)
      unfold Oper.wp
      go_simp
      refine hK _ _ ⟨⟨_, _, _, _, _, _, _, _, _, _, _, _, _, rfl, (fun h => g0 (h.resolve_right (by decide))), (fun h => g1 (h.resolve_right (by decide))), (fun h => g2 (h.resolve_right (by decide))), (fun _ => rfl), (fun h => g4 (h.resolve_right (by decide))), (fun h => g5 (h.resolve_right (by decide))), (fun h => g6 (h.resolve_right (by decide))), (fun h => g7 (h.resolve_right (by decide))), (fun h => ⟨.inl (g8 (h.resolve_right (by decide))).1, (g8 (h.resolve_right (by decide))).2⟩), (fun h => ⟨.inl (g9 (h.resolve_right (by decide))).1, fun q => (g9 (h.resolve_right (by decide))).2 (fun a => q (.inl a))⟩), (fun h => ⟨.inl (g10 (h.resolve_right (by decide))).1, .inl (g10 (h.resolve_right (by decide))).2.1, .inl (g10 (h.resolve_right (by decide))).2.2.1, fun q => (g10 (h.resolve_right (by decide))).2.2.2 (fun a => q (.inl a))⟩), (fun h => g11 (h.resolve_right (by decide))), (fun h => g12 (h.resolve_right (by decide))), (fun h => ⟨.inl (g13 (h.resolve_right (by decide))).1, (g13 (h.resolve_right (by decide))).2⟩)⟩, (fun q => hfr0 (fun a => q (.inl a)))⟩
    · have r3 := g3 (hd _ rfl ⟨3, .data⟩ (by simp) rfl)
      subst r3
      have hfr := hfr0 (fun q => hnp (g10 q).1)
      have c1 := (hfr.blk HG.out.2.1.hd (by simp)).at 1 (v := .slice (some ⟨g, 0, none⟩) Ps.length cap) rfl
      rw [← HN.out] at c1
      refine wpOp_plain (i := 4) rfl rfl (fun K' hK => ?_)
      unfold Oper.wp
      go_simp
      refine hK _ _ ⟨⟨_, _, _, _, _, _, _, _, _, _, _, _, _, rfl, (fun h => g0 (h.resolve_right (by decide))), (fun h => g1 (h.resolve_right (by decide))), (fun h => g2 (h.resolve_right (by decide))), (fun h => g3 (h.resolve_right (by decide))), (fun _ => rfl), (fun h => g5 (h.resolve_right (by decide))), (fun h => g6 (h.resolve_right (by decide))), (fun h => g7 (h.resolve_right (by decide))), (fun h => ⟨.inl (g8 (h.resolve_right (by decide))).1, (g8 (h.resolve_right (by decide))).2⟩), (fun h => ⟨.inl (g9 (h.resolve_right (by decide))).1, fun q => (g9 (h.resolve_right (by decide))).2 (fun a => q (.inl a))⟩), (fun h => ⟨.inl (g10 (h.resolve_right (by decide))).1, .inl (g10 (h.resolve_right (by decide))).2.1, .inl (g10 (h.resolve_right (by decide))).2.2.1, fun q => (g10 (h.resolve_right (by decide))).2.2.2 (fun a => q (.inl a))⟩), (fun h => g11 (h.resolve_right (by decide))), (fun h => g12 (h.resolve_right (by decide))), (fun h => ⟨.inl (g13 (h.resolve_right (by decide))).1, (g13 (h.resolve_right (by decide))).2⟩)⟩, (fun q => hfr0 (fun a => q (.inl a)))⟩
    · refine wpOp_plain (i := 5) rfl rfl (fun K' hK => ?_)
      unfold Oper.wp
      go_simp
      refine hK _ _ ⟨⟨_, _, _, _, _, _, _, _, _, _, _, _, _, rfl, (fun h => g0 (h.resolve_right (by decide))), (fun h => g1 (h.resolve_right (by decide))), (fun h => g2 (h.resolve_right (by decide))), (fun h => g3 (h.resolve_right (by decide))), (fun h => g4 (h.resolve_right (by decide))), (fun _ => rfl), (fun h => g6 (h.resolve_right (by decide))), (fun h => g7 (h.resolve_right (by decide))), (fun h => ⟨.inl (g8 (h.resolve_right (by decide))).1, (g8 (h.resolve_right (by decide))).2⟩), (fun h => ⟨.inl (g9 (h.resolve_right (by decide))).1, fun q => (g9 (h.resolve_right (by decide))).2 (fun a => q (.inl a))⟩), (fun h => ⟨.inl (g10 (h.resolve_right (by decide))).1, .inl (g10 (h.resolve_right (by decide))).2.1, .inl (g10 (h.resolve_right (by decide))).2.2.1, fun q => (g10 (h.resolve_right (by decide))).2.2.2 (fun a => q (.inl a))⟩), (fun h => g11 (h.resolve_right (by decide))), (fun h => g12 (h.resolve_right (by decide))), (fun h => ⟨.inl (g13 (h.resolve_right (by decide))).1, (g13 (h.resolve_right (by decide))).2⟩)⟩, (fun q => hfr0 (fun a => q (.inl a)))⟩
    · refine wpOp_plain (i := 6) rfl rfl (fun K' hK => ?_)
      unfold Oper.wp
      go_simp
      refine hK _ _ ⟨⟨_, _, _, _, _, _, _, _, _, _, _, _, _, rfl, (fun h => g0 (h.resolve_right (by decide))), (fun h => g1 (h.resolve_right (by decide))), (fun h => g2 (h.resolve_right (by decide))), (fun h => g3 (h.resolve_right (by decide))), (fun h => g4 (h.resolve_right (by decide))), (fun h => g5 (h.resolve_right (by decide))), (fun _ => rfl), (fun h => g7 (h.resolve_right (by decide))), (fun h => ⟨.inl (g8 (h.resolve_right (by decide))).1, (g8 (h.resolve_right (by decide))).2⟩), (fun h => ⟨.inl (g9 (h.resolve_right (by decide))).1, fun q => (g9 (h.resolve_right (by decide))).2 (fun a => q (.inl a))⟩), (fun h => ⟨.inl (g10 (h.resolve_right (by decide))).1, .inl (g10 (h.resolve_right (by decide))).2.1, .inl (g10 (h.resolve_right (by decide))).2.2.1, fun q => (g10 (h.resolve_right (by decide))).2.2.2 (fun a => q (.inl a))⟩), (fun h => g11 (h.resolve_right (by decide))), (fun h => g12 (h.resolve_right (by decide))), (fun h => ⟨.inl (g13 (h.resolve_right (by decide))).1, (g13 (h.resolve_right (by decide))).2⟩)⟩, (fun q => hfr0 (fun a => q (.inl a)))⟩
    · have hfr := hfr0 (fun q => hnp (g10 q).2.1)
      have q := hfr.blk HG.out.2.2.2.2 (by simp)
      have c0 := q.at 0 (v := .int .i64 x.1) rfl
      have c1 := q.at 1 (v := .string x.2) rfl
      clear q
      refine wpOp_plain (i := 7) rfl rfl (fun K' hK => ?_)
      unfold Oper.wp
      go_simp
      refine hK _ _ ⟨⟨_, _, _, _, _, _, _, _, _, _, _, _, _, rfl, (fun h => g0 (h.resolve_right (by decide))), (fun h => g1 (h.resolve_right (by decide))), (fun h => g2 (h.resolve_right (by decide))), (fun h => g3 (h.resolve_right (by decide))), (fun h => g4 (h.resolve_right (by decide))), (fun h => g5 (h.resolve_right (by decide))), (fun h => g6 (h.resolve_right (by decide))), (fun _ => rfl), (fun h => ⟨.inl (g8 (h.resolve_right (by decide))).1, (g8 (h.resolve_right (by decide))).2⟩), (fun h => ⟨.inl (g9 (h.resolve_right (by decide))).1, fun q => (g9 (h.resolve_right (by decide))).2 (fun a => q (.inl a))⟩), (fun h => ⟨.inl (g10 (h.resolve_right (by decide))).1, .inl (g10 (h.resolve_right (by decide))).2.1, .inl (g10 (h.resolve_right (by decide))).2.2.1, fun q => (g10 (h.resolve_right (by decide))).2.2.2 (fun a => q (.inl a))⟩), (fun h => g11 (h.resolve_right (by decide))), (fun h => g12 (h.resolve_right (by decide))), (fun h => ⟨.inl (g13 (h.resolve_right (by decide))).1, (g13 (h.resolve_right (by decide))).2⟩)⟩, (fun q => hfr0 (fun a => q (.inl a)))⟩
    · have r6 := g6 (hd _ rfl ⟨6, .data⟩ (by simp) rfl)
      subst r6
      have r7 := g7 (hd _ rfl ⟨7, .data⟩ (by simp) rfl)
      subst r7
      refine wpOp_plain (i := 8) rfl rfl (fun K' hK => ?_)
      unfold Oper.wp
      go_simp
      refine hK _ _ ⟨⟨_, _, _, _, _, _, _, _, _, _, _, _, _, rfl, (fun h => g0 (h.resolve_right (by decide))), (fun h => g1 (h.resolve_right (by decide))), (fun h => g2 (h.resolve_right (by decide))), (fun h => g3 (h.resolve_right (by decide))), (fun h => g4 (h.resolve_right (by decide))), (fun h => g5 (h.resolve_right (by decide))), (fun h => g6 (h.resolve_right (by decide))), (fun h => g7 (h.resolve_right (by decide))), (fun _ => ⟨.inl (hd _ rfl ⟨7, .data⟩ (by simp) rfl), rfl⟩), (fun h => ⟨.inl (g9 (h.resolve_right (by decide))).1, fun q => (g9 (h.resolve_right (by decide))).2 (fun a => q (.inl a))⟩), (fun h => ⟨.inl (g10 (h.resolve_right (by decide))).1, .inl (g10 (h.resolve_right (by decide))).2.1, .inl (g10 (h.resolve_right (by decide))).2.2.1, fun q => (g10 (h.resolve_right (by decide))).2.2.2 (fun a => q (.inl a))⟩), (fun h => g11 (h.resolve_right (by decide))), (fun h => g12 (h.resolve_right (by decide))), (fun h => ⟨.inl (g13 (h.resolve_right (by decide))).1, (g13 (h.resolve_right (by decide))).2⟩)⟩, (fun q => hfr0 (fun a => q (.inl a)))⟩
    · have r8 := (g8 (hd _ rfl ⟨8, .data⟩ (by simp) rfl)).2
      subst r8
      have hfr := hfr0 (fun q => hnp (g10 q).2.2.1)
      refine wpOp_plain (i := 9) rfl rfl (fun K' hK => ?_)
      unfold Oper.wp
      go_simp
      refine hK _ _ ⟨⟨_, _, _, _, _, _, _, _, _, _, _, _, _, rfl, (fun h => g0 (h.resolve_right (by decide))), (fun h => g1 (h.resolve_right (by decide))), (fun h => g2 (h.resolve_right (by decide))), (fun h => g3 (h.resolve_right (by decide))), (fun h => g4 (h.resolve_right (by decide))), (fun h => g5 (h.resolve_right (by decide))), (fun h => g6 (h.resolve_right (by decide))), (fun h => g7 (h.resolve_right (by decide))), (fun h => ⟨.inl (g8 (h.resolve_right (by decide))).1, (g8 (h.resolve_right (by decide))).2⟩), (fun _ => ⟨.inl (g8 (hd _ rfl ⟨8, .data⟩ (by simp) rfl)).1, fun _ => ⟨_, rfl, Blk.new W _ _, hfr.size⟩⟩), (fun h => absurd (g10 (h.resolve_right (by decide))).2.2.1 hnp), (fun h => g11 (h.resolve_right (by decide))), (fun h => g12 (h.resolve_right (by decide))), (fun h => absurd (g10 (g13 (h.resolve_right (by decide))).1).2.2.1 hnp)⟩, (fun _ => hfr.alloc _)⟩
    · have r4 := g4 (hd _ rfl ⟨4, .data⟩ (by simp) rfl)
      subst r4
      have r5 := g5 (hd _ rfl ⟨5, .data⟩ (by simp) rfl)
      subst r5
      have hfr := hfr0 hnp
      have HP9 := Lib.hid (g9 (hd _ rfl ⟨9, .data⟩ (by simp) rfl))
      obtain ⟨z, r9, hz, hzs⟩ := HP9.out.2 hnp
      subst r9
      refine wpOp_plain (i := 10) rfl rfl (fun K' hK => ?_)
      unfold Oper.wp
      go_simp
      (with_reducible refine (HINS.out _ _ hfr hz hzs).mono ?_)
      rintro e w9 ⟨v', rfl, ho, hnn, hpl, hf⟩
      refine hK _ _ ⟨⟨_, _, _, _, _, _, _, _, _, _, _, _, _, rfl, (fun h => g0 (h.resolve_right (by decide))), (fun h => g1 (h.resolve_right (by decide))), (fun h => g2 (h.resolve_right (by decide))), (fun h => g3 (h.resolve_right (by decide))), (fun h => g4 (h.resolve_right (by decide))), (fun h => g5 (h.resolve_right (by decide))), (fun h => g6 (h.resolve_right (by decide))), (fun h => g7 (h.resolve_right (by decide))), (fun h => ⟨.inl (g8 (h.resolve_right (by decide))).1, (g8 (h.resolve_right (by decide))).2⟩), (fun h => ⟨.inl (g9 (h.resolve_right (by decide))).1, fun q => absurd (.inr rfl) q⟩), (fun _ => ⟨.inl (hd _ rfl ⟨4, .data⟩ (by simp) rfl), .inl HP9.out.1, .inl (hd _ rfl ⟨9, .data⟩ (by simp) rfl), fun _ => ⟨ho, hnn, hpl.imp (fun a => a) (fun ⟨g', a, c⟩ => ⟨g', a, Nat.le_trans hfr.size c⟩), (hfr.mono (by simp)).trans hf (by simp [Value.ownBlock])⟩⟩), (fun h => g11 (h.resolve_right (by decide))), (fun h => g12 (h.resolve_right (by decide))), (fun h => absurd (g13 (h.resolve_right (by decide))).1 hnp)⟩, (fun q => absurd (.inr rfl) q)⟩
    · have r0 := g0 (hd _ rfl ⟨0, .data⟩ (by simp) rfl)
      subst r0
      refine wpOp_plain (i := 11) rfl rfl (fun K' hK => ?_)
      unfold Oper.wp
      go_simp
      refine hK _ _ ⟨⟨_, _, _, _, _, _, _, _, _, _, _, _, _, rfl, (fun h => g0 (h.resolve_right (by decide))), (fun h => g1 (h.resolve_right (by decide))), (fun h => g2 (h.resolve_right (by decide))), (fun h => g3 (h.resolve_right (by decide))), (fun h => g4 (h.resolve_right (by decide))), (fun h => g5 (h.resolve_right (by decide))), (fun h => g6 (h.resolve_right (by decide))), (fun h => g7 (h.resolve_right (by decide))), (fun h => ⟨.inl (g8 (h.resolve_right (by decide))).1, (g8 (h.resolve_right (by decide))).2⟩), (fun h => ⟨.inl (g9 (h.resolve_right (by decide))).1, fun q => (g9 (h.resolve_right (by decide))).2 (fun a => q (.inl a))⟩), (fun h => ⟨.inl (g10 (h.resolve_right (by decide))).1, .inl (g10 (h.resolve_right (by decide))).2.1, .inl (g10 (h.resolve_right (by decide))).2.2.1, fun q => (g10 (h.resolve_right (by decide))).2.2.2 (fun a => q (.inl a))⟩), (fun _ => rfl), (fun h => g12 (h.resolve_right (by decide))), (fun h => ⟨.inl (g13 (h.resolve_right (by decide))).1, (g13 (h.resolve_right (by decide))).2⟩)⟩, (fun q => hfr0 (fun a => q (.inl a)))⟩
    · have r11 := g11 (hd _ rfl ⟨11, .data⟩ (by simp) rfl)
      subst r11
      refine wpOp_plain (i := 12) rfl rfl (fun K' hK => ?_)
      unfold Oper.wp
      go_simp
      refine hK _ _ ⟨⟨_, _, _, _, _, _, _, _, _, _, _, _, _, rfl, (fun h => g0 (h.resolve_right (by decide))), (fun h => g1 (h.resolve_right (by decide))), (fun h => g2 (h.resolve_right (by decide))), (fun h => g3 (h.resolve_right (by decide))), (fun h => g4 (h.resolve_right (by decide))), (fun h => g5 (h.resolve_right (by decide))), (fun h => g6 (h.resolve_right (by decide))), (fun h => g7 (h.resolve_right (by decide))), (fun h => ⟨.inl (g8 (h.resolve_right (by decide))).1, (g8 (h.resolve_right (by decide))).2⟩), (fun h => ⟨.inl (g9 (h.resolve_right (by decide))).1, fun q => (g9 (h.resolve_right (by decide))).2 (fun a => q (.inl a))⟩), (fun h => ⟨.inl (g10 (h.resolve_right (by decide))).1, .inl (g10 (h.resolve_right (by decide))).2.1, .inl (g10 (h.resolve_right (by decide))).2.2.1, fun q => (g10 (h.resolve_right (by decide))).2.2.2 (fun a => q (.inl a))⟩), (fun h => g11 (h.resolve_right (by decide))), (fun _ => rfl), (fun h => ⟨.inl (g13 (h.resolve_right (by decide))).1, (g13 (h.resolve_right (by decide))).2⟩)⟩, (fun q => hfr0 (fun a => q (.inl a)))⟩
    · have r12 := g12 (hd _ rfl ⟨12, .data⟩ (by simp) rfl)
      subst r12
      have hp10 := hd _ rfl ⟨10, .data⟩ (by simp) rfl
      obtain ⟨ho, hnn, hpl, hf⟩ := (g10 hp10).2.2.2 hnp
      obtain ⟨gq, cpq, rfl⟩ := own_succ ho
      have hb := hf.blk HG.out.2.1.hd (by simp; exact HBG.out)
      have c1 := hb.at 1 (v := .slice (some ⟨g, 0, none⟩) Ps.length cap) rfl
      have e1 := hb.free 1
      refine wpOp_plain (i := 13) rfl rfl (fun K' hK => ?_)
      unfold Oper.wp
      go_simp
      refine hK _ _ ⟨⟨_, _, _, _, _, _, _, _, _, _, _, _, _, rfl, (fun h => g0 (h.resolve_right (by decide))), (fun h => g1 (h.resolve_right (by decide))), (fun h => g2 (h.resolve_right (by decide))), (fun h => g3 (h.resolve_right (by decide))), (fun h => g4 (h.resolve_right (by decide))), (fun h => g5 (h.resolve_right (by decide))), (fun h => g6 (h.resolve_right (by decide))), (fun h => g7 (h.resolve_right (by decide))), (fun h => ⟨.inl (g8 (h.resolve_right (by decide))).1, (g8 (h.resolve_right (by decide))).2⟩), (fun h => ⟨.inl (g9 (h.resolve_right (by decide))).1, fun q => absurd (.inl hp10) q⟩), (fun h => ⟨.inl (g10 hp10).1, .inl (g10 hp10).2.1, .inl (g10 hp10).2.2.1, fun q => absurd (.inr rfl) q⟩), (fun h => g11 (h.resolve_right (by decide))), (fun h => g12 (h.resolve_right (by decide))), (fun _ => ⟨.inl hp10, _, tabV_ins hb ho hnn (fun g2 e => HPL.out _ hpl g2 e) HTB.out.1 HTB.out.2.1 HI.out hhid.out HLN.out HTB.out.2.2.2, hpl, (hf.mono (by simp)).setCell ⟨b, 1, none⟩ _ (.inl (by simp))⟩)⟩, (fun q => absurd (.inl hp10) q)⟩
  · intro p a W i hI
    obtain ⟨⟨x0, x1, x2, x3, x4, x5, x6, x7, x8, x9, x10, x11, x12, rfl, -, -, -, -, -, -, -, -, -, -, -, -, -, g13⟩, _⟩ := hI
    obtain ⟨_, v', htab, hpl, hfr⟩ := g13 (i 13 (by decide))
    have zb := hfr.blk HG.out.2.2.1 (by simp; exact ⟨HBB.out.1.1, HBB.out.1.2.1⟩)
    have zn := hfr.blk HG.out.2.2.2.1 (by simp; exact ⟨HBB.out.1.2.2.1, HBB.out.1.2.2.2⟩)
    have y0 := zb.at 0 (v := .int .i64 0) rfl
    have v0 := zb.free 0
    have y1 := zb.at 1 (v := .string ⟨#[]⟩) rfl
    have v1 := zb.free 1
    have q0 := zn.at 0 (v := .int .i64 0) rfl
    have q1 := zn.at 1 (v := .string ⟨#[]⟩) rfl
    have HE := Lib.hid (And.intro htab (And.intro hpl hfr))
    clear htab hpl hfr zb zn
    simp only [Exit.then]
    go_wp2_with fail
    refine bodyPost_ret (v := .tuple #[.agg #[.int .i64 0, .string ⟨#[]⟩], .int .i64 0]) (by simp [results, Tryd.results13, go_sem, y0, y1]) rfl ?_
    obtain ⟨htab, hpl, hfr⟩ := HE.out
    refine ⟨rfl, v', TabV.fr (S := [w.heap.size + 1]) htab ?_ ?_ ?_, ?_, ?_⟩
    · exact ((((Fr.refl _ _).setCell ⟨w.heap.size + 1, 0, none⟩ (.int .i64 0) (.inl (by simp)))).setCell ⟨w.heap.size + 1, 1, none⟩ (.string ⟨#[]⟩) (.inl (by simp)))
    · have := HBB.out.1.1; simp; omega
    · intro g2 hg2 hm
      have h3 := HBB.out
      have h4 := HG.out.1.size
      have h5 := HG.out.2.2.1.lt
      simp at hm
      subst hm
      rcases hpl with hp | ⟨g', hp, hge⟩
      · rw [hp] at hg2; cases hg2; omega
      · rw [hp] at hg2; cases hg2; omega
    · rcases hpl with hp | ⟨g', hp, hge⟩
      · exact .inl hp
      · exact .inr ⟨g', hp, Nat.le_trans HG.out.1.size hge⟩
    · have hf := ((HG.out.1.mono (T := [b, g]) (by simp)).trans hfr (fun x hx => .inl hx))
      exact ((((hf).setCell ⟨w.heap.size + 1, 0, none⟩ (.int .i64 0) (.inr (by simp)))).setCell ⟨w.heap.size + 1, 1, none⟩ (.string ⟨#[]⟩) (.inr (by simp)))
end Go.Proofs.YtgoolkgjcmdilaaDoor
