/-
  The document's ring: Push, At, Cut, Set, Drop, Mark. Printed by genQr.py.
-/
import Derived.Test.YtiimmndhinoaiaaDoorQrB
namespace Go.Proofs.YtiimmndhinoaiaaDoor
open Go.RowKit Go.Shelf ring
set_option linter.unusedVariables false
set_option linter.unusedSimpArgs false
attribute [local go_sem] Oper.semAt_some
namespace Qu

/-- What a change leaves. -/
def QPost (w : World) (r : Nat) (v : Value) (L' : List Int) (M' : RM) (res : Value) (e : Ending) (w' : World) : Prop :=
  e = .returned res ∧ ∃ v', RqAt w' r v' L' M' ∧ (v' = v ∨ ∀ g, v'.ownBlock = some g → w.heap.size ≤ g) ∧ Fr [r] w w'
/-- now, where a new list is laid in. -/
theorem now_lay (w w1 : World) (r : Nat) (v v' : Value) (L L' : List Int) (M : RM) (h : RqAt w r v L M) (f : Fr [] w w1) (ho : w1.ownsRow 0 3 1 v' L'.length (ints L')) (hg : ∀ g, v'.ownBlock = some g → w.heap.size ≤ g) :
    Calls Tryd.prog 94 #[.pointer (some ⟨r, 0, none⟩), v'] w1 fun e w' => (∃ u, e = .returned u) ∧ RqAt w' r v' L' (nowM M L.length L'.length) ∧ (∀ g, v'.ownBlock = some g → w.heap.size ≤ g) ∧ Fr [r] w w' := by
  obtain ⟨p, c, rfl, -, -, -⟩ := h.form
  obtain ⟨p', c', rfl⟩ := own_form ho
  have h1 := h.fr0 f
  refine (now_any w1 r p p' _ _ c c' M h1.hd).mono ?_
  rintro e w' ⟨hv, hb, f'⟩
  have hn : r ∉ (Value.slice p' L'.length c').ownBlock.toList := own_notin ho h1.hd (by decide)
  exact ⟨hv, ⟨hb, own_fr ho f' (fun g hg hm => hn (by simp at hm; subst hm; simp [hg]))⟩, hg, (f.mono (by simp)).trans f' (fun x hx => .inl hx)⟩
theorem nowM_sized {M : RM} {n n' : Nat} (h : n' ≠ n) : nowM M n n' = M.sized n' := by unfold nowM; rw [if_neg h]
theorem nowM_same {M : RM} {n : Nat} (h : n ≤ M.pk) : nowM M n n = M := by unfold nowM; rw [if_pos rfl, Nat.max_eq_left h]
theorem qpush_full (w : World) (r : Nat) (v : Value) (L : List Int) (M : RM) (x : Int) (h : RqAt w r v L M) (hl : M.most ≤ L.length) (hr : 0 ≤ M.rf ∧ M.rf < 4611686018427387904) :
    Calls Tryd.prog 51 #[.pointer (some ⟨r, 0, none⟩), .int .i64 x] w (QPost w r v L M.ref (.int .i64 5)) := by
  obtain ⟨p, c, rfl, -, -, -⟩ := h.form
  obtain ⟨c0, c1, c2, c3, c4, c5, c6, c7, cf⟩ := rcells_at h.hd
  have f7 := cf 7
  have hn := h.notin
  have HE := Lib.hid (show ∀ m, QPost w r (.slice p L.length c) L M.ref (.int .i64 5) (.returned (.int .i64 5)) ((w.drewN m).setCell ⟨r, 7, none⟩ (.int .i64 (M.rf + 1))) from fun m => ⟨rfl, _, ⟨(h.hd.drewN m).set 7 (.int .i64 (M.rf + 1)), own_fr h.own (((Fr.refl [r] w).drewN m).setCell _ _ (.inl (by simp))) (fun g hg hm => hn (by simp at hm; subst hm; simp [hg]))⟩, .inl rfl, ((Fr.refl _ w).drewN m).setCell _ _ (.inl (by simp))⟩)
  have hlm : (M.most : Int) ≤ (L.length : Int) := by omega
  obtain ⟨hr1, hr2⟩ := hr
  generalize M.rf = rf at *
  generalize L.length = n at *
  clear h hl cf c2 c3 c4 c5 c6 hn
  go_enter Tryd.func51, Tryd.ntmps51
  go_wp2_with fail
  go_quiet (fail)
  go_wp2
  go_ret
  exact HE.out _
set_option maxHeartbeats 1000000 in
theorem qpush_ok (w : World) (r : Nat) (v : Value) (L : List Int) (M : RM) (x : Int) (h : RqAt w r v L M) (hl : L.length < M.most) (hm : M.most ≤ 65536) :
    Calls Tryd.prog 51 #[.pointer (some ⟨r, 0, none⟩), .int .i64 x] w (QPost w r v (L ++ [x]) (M.sized (L.length + 1)) (.int .i64 0)) := by
  have HC := Lib.hid (fun m => copied_any (w.drewN m) v L (-1) ((h.fr0 ((Fr.refl [] _).drewN m)).rd (by omega)) (by omega))
  obtain ⟨p, c, rfl, -, -, -⟩ := h.form
  obtain ⟨c0, c1, c2, c3, c4, c5, c6, c7, cf⟩ := rcells_at h.hd
  have HH := Lib.hid (And.intro h (And.intro hl hm))
  have hn64 : L.length ≤ 65536 := by omega
  have hlm : ¬ (M.most : Int) ≤ (L.length : Int) := by omega
  clear h cf c2 c3 c4 c5 c6 c7 hl hm
  go_enter Tryd.func51, Tryd.ntmps51
  go_wp2_with fail
  go_quiet (fail)
  go_wp2_with fail
  generalize hm1 : w.drewN _ = w1
  have HC1 : Hid (Calls Tryd.prog 93 #[.slice p L.length c, .int .i64 (-1)] w1 (CopPost w1 L (-1))) := by rw [← hm1]; exact Lib.hid (HC.out _)
  have F1 : Fr [] w w1 := by rw [← hm1]; exact (Fr.refl _ _).drewN _
  have hs1 : w1.heap.size = w.heap.size := by rw [← hm1]; rfl
  have HF1 := Lib.hid (And.intro F1 hs1)
  clear hm1 HC F1 hs1 c0 c1
  (with_reducible refine HC1.out.mono ?_)
  rintro e w2 ⟨v', rfl, ho, f2, hg⟩
  rw [cpy_full _ _ (by omega)] at ho
  obtain ⟨p', c', rfl⟩ := own_form ho
  have HO := Lib.hid (And.intro ho (And.intro f2 hg))
  clear ho f2 hg
  go_wp2_with (at_builtin; go_must (refine wpList_app _ rfl _ _ 22 rfl 3 (.int .i64 0) 1 8 Tryd.underlying22 infoI rfl (by decide) (.slice p' L.length c') L.length (ints L) rfl (HO.out.1.alloc _) ⟨w2.heap.size, 0, none⟩ 1 1 [.int .i64 x] rfl rfl (new_one _ _ _ _ rfl) (by simp [Value.oneCell']) (by unfold maxLen; omega) (by omega) ?_); intro v1 w3 happ; have HAP := Lib.hid happ; clear happ)
  obtain ⟨ho, f2, hg⟩ := HO.out
  have happ := HAP.out
  have hsz := f2.size
  have F3 : Fr [] w w3 := (HF1.out.1.trans f2 (by simp)).trans (((Fr.refl [] w2).alloc _).mono (by simp) |>.trans happ.fr (fun y hy => .inl hy)) (fun y hy => .inr (by have := hg y (by simpa using hy); have := HF1.out.2; omega))
  have ho3 : w3.ownsRow 0 3 1 v1 (L ++ [x]).length (ints (L ++ [x])) := by
    have := happ.own
    rw [List.length_append, List.length_singleton]
    simpa [ints] using this
  have hg3 : ∀ g, v1.ownBlock = some g → w.heap.size ≤ g := fun g hq => by
    rcases happ.place with q | q
    · have := hg g (by rw [← q]; exact hq); have := HF1.out.2; omega
    · rw [q] at hq; cases hq; simp; have := HF1.out.2; omega
  have hnow := now_lay w w3 r _ v1 L (L ++ [x]) M HH.out.1 F3 ho3 hg3
  have e1 : nowM M L.length (L ++ [x]).length = M.sized (L.length + 1) := by rw [List.length_append, List.length_singleton]; exact nowM_sized (by omega)
  rw [e1] at hnow
  obtain ⟨p1, c1, rfl⟩ := own_form ho3
  have HW := Lib.hid hnow
  clear ho f2 hg happ hsz F3 ho3 hg3 hnow e1 HAP
  go_wp2_with fail
  (with_reducible refine HW.out.mono ?_)
  rintro e w4 ⟨⟨u, rfl⟩, h4, g4, f4⟩
  have H4 := Lib.hid (And.intro h4 (And.intro g4 f4))
  clear h4 g4 f4
  go_wp2
  go_ret
  exact ⟨rfl, _, H4.out.1, .inr H4.out.2.1, H4.out.2.2⟩

theorem qat_any (w : World) (r : Nat) (v : Value) (L : List Int) (M : RM) (i : Int) (h : RqAt w r v L M) (hl : L.length ≤ 65536) : Calls Tryd.prog 59 #[.pointer (some ⟨r, 0, none⟩), .int .i64 i] w fun e w' => e = .returned (if 0 ≤ i ∧ i < L.length then .tuple #[.int .i64 (L.getD i.toNat 0), .bool true] else .tuple #[.int .i64 0, .bool false]) ∧ w = w' := by
  obtain ⟨c0, -⟩ := rcells_at h.hd
  by_cases h0 : i < 0
  · rw [if_neg (by omega)]
    clear h
    go_enter Tryd.func59, Tryd.ntmps59
    go_wp2
    go_ret2
    exact ⟨rfl, rfl⟩
  · obtain ⟨j, rfl⟩ : ∃ j : Nat, i = j := ⟨i.toNat, by omega⟩
    clear h0
    by_cases hj : j < L.length
    · rw [if_pos (by omega), Int.toNat_natCast]
      obtain ⟨x, hx⟩ : ∃ x, L.getD j 0 = x := ⟨_, rfl⟩
      obtain ⟨g, o, cap, rfl, _, _, hcell⟩ := (h.rd (by omega)).pos (by omega)
      have cx : w.cell? ⟨g, o + j, none⟩ = some (.int .i64 x) := hcell j _ (by simp [ints, hj]; rw [← hx]; simp [List.getD_eq_getElem?_getD, hj])
      rw [hx]
      have i0 : (0 : Int) ≤ (j : Int) := by omega
      have i1 : (j : Int) < (L.length : Int) := by omega
      have i2 : ¬ L.length ≤ j := by omega
      generalize L.length = n at *
      clear h hcell hx
      go_enter Tryd.func59, Tryd.ntmps59
      go_wp2
      go_ret2
      exact ⟨rfl, rfl⟩
    · rw [if_neg (by omega)]
      obtain ⟨p, c, rfl, -, -, -⟩ := h.form
      have i1 : (L.length : Int) ≤ (j : Int) := by omega
      generalize L.length = n at *
      clear h
      go_enter Tryd.func59, Tryd.ntmps59
      go_wp2
      go_ret2
      exact ⟨rfl, rfl⟩
theorem qcut_no (w : World) (r : Nat) (v : Value) (L : List Int) (M : RM) (i : Int) (h : RqAt w r v L M) (hl : L.length ≤ 65536) (hi : ¬ (0 ≤ i ∧ i < L.length)) : Calls Tryd.prog 57 #[.pointer (some ⟨r, 0, none⟩), .int .i64 i] w fun e w' => e = .returned (.tuple #[.int .i64 0, .bool false]) ∧ w = w' := by
  have ha := qat_any w r v L M i h hl
  rw [if_neg hi] at ha
  have HA := Lib.hid ha
  clear ha h hi
  go_enter Tryd.func57, Tryd.ntmps57
  go_wp2_with fail
  (with_reducible refine HA.out.mono ?_)
  rintro e w1 ⟨rfl, rfl⟩
  go_wp2
  go_ret2
  exact ⟨rfl, rfl⟩
set_option maxHeartbeats 1000000 in
theorem qcut_ok (w : World) (r : Nat) (v : Value) (L : List Int) (M : RM) (i : Nat) (h : RqAt w r v L M) (hl : L.length ≤ 65536) (hi : i < L.length) : Calls Tryd.prog 57 #[.pointer (some ⟨r, 0, none⟩), .int .i64 i] w (QPost w r v (L.eraseIdx i) (M.sized (L.length - 1)) (.tuple #[.int .i64 (L.getD i 0), .bool true])) := by
  have ha := qat_any w r v L M i h hl
  rw [if_pos (by omega), Int.toNat_natCast] at ha
  have HA := Lib.hid ha
  have HC := Lib.hid (copied_any w v L (i : Int) (h.rd (by omega)) (by omega))
  generalize L.getD i 0 = x at *
  obtain ⟨c0, -⟩ := rcells_at h.hd
  have HH := Lib.hid (And.intro h hi)
  obtain ⟨p, c, rfl, -, -, -⟩ := h.form
  clear ha h hi hl
  go_enter Tryd.func57, Tryd.ntmps57
  go_wp2_with fail
  (with_reducible refine HA.out.mono ?_)
  rintro e w1 ⟨rfl, rfl⟩
  go_wp2_with fail
  (with_reducible refine HC.out.mono ?_)
  rintro e w2 ⟨v', rfl, ho, f2, hg⟩
  rw [cpy_erase L i HH.out.2] at ho
  have hnow := now_lay w w2 r _ v' L (L.eraseIdx i) M HH.out.1 f2 ho hg
  have he : (L.eraseIdx i).length = L.length - 1 := by rw [List.length_eraseIdx_of_lt HH.out.2]
  have e1 : nowM M L.length (L.eraseIdx i).length = M.sized (L.length - 1) := by rw [he]; exact nowM_sized (by have := HH.out.2; omega)
  rw [e1] at hnow
  obtain ⟨p', c', rfl⟩ := own_form ho
  have HW := Lib.hid hnow
  clear ho f2 hg hnow e1 he
  go_wp2_with fail
  (with_reducible refine HW.out.mono ?_)
  rintro e w4 ⟨⟨u, rfl⟩, h4, g4, f4⟩
  have H4 := Lib.hid (And.intro h4 (And.intro g4 f4))
  clear h4 g4 f4
  go_wp2
  go_ret2
  exact ⟨rfl, _, H4.out.1, .inr H4.out.2.1, H4.out.2.2⟩
theorem qset_no (w : World) (r : Nat) (v : Value) (L : List Int) (M : RM) (i x : Int) (h : RqAt w r v L M) (hi : ¬ (0 ≤ i ∧ i < L.length)) : Calls Tryd.prog 60 #[.pointer (some ⟨r, 0, none⟩), .int .i64 i, .int .i64 x] w fun e w' => e = .returned (.bool false) ∧ w = w' := by
  obtain ⟨c0, -⟩ := rcells_at h.hd
  obtain ⟨p, c, rfl, -, -, -⟩ := h.form
  clear h
  by_cases h0 : i < 0
  · clear hi
    go_enter Tryd.func60, Tryd.ntmps60
    go_wp2
    go_ret
    exact ⟨rfl, rfl⟩
  · have i1 : (L.length : Int) ≤ i := by omega
    generalize L.length = n at *
    clear hi
    go_enter Tryd.func60, Tryd.ntmps60
    go_wp2
    go_ret
    exact ⟨rfl, rfl⟩
set_option maxHeartbeats 1000000 in
theorem qset_ok (w : World) (r : Nat) (v : Value) (L : List Int) (M : RM) (i : Nat) (x : Int) (h : RqAt w r v L M) (hl : L.length ≤ 65536) (hi : i < L.length) : Calls Tryd.prog 60 #[.pointer (some ⟨r, 0, none⟩), .int .i64 i, .int .i64 x] w (QPost w r v (L.set i x) M (.bool true)) := by
  have HC := Lib.hid (copied_any w v L (-1) (h.rd (by omega)) (by omega))
  obtain ⟨c0, -⟩ := rcells_at h.hd
  have HH := Lib.hid (And.intro h hi)
  obtain ⟨p, c, rfl, -, -, -⟩ := h.form
  have i0 : (0 : Int) ≤ (i : Int) := by omega
  have i1 : (i : Int) < (L.length : Int) := by omega
  have i2 : ¬ L.length ≤ i := by omega
  clear h hl
  obtain ⟨n, hn⟩ : ∃ n, n = L.length := ⟨_, rfl⟩
  rw [← hn] at HC hi i1 i2 c0 ⊢
  have HN := Lib.hid hn
  clear hn
  go_enter Tryd.func60, Tryd.ntmps60
  go_wp2_with fail
  (with_reducible refine HC.out.mono ?_)
  rintro e w2 ⟨v', rfl, ho, f2, hg⟩
  rw [cpy_full _ _ (by omega)] at ho
  obtain ⟨g', cap', hv'⟩ : ∃ g' cap', v' = .slice (some ⟨g', 0, none⟩) L.length cap' := by
    obtain ⟨m, hm⟩ : ∃ m, L.length = m + 1 := ⟨L.length - 1, by have := HN.out; omega⟩
    have := ho
    rw [hm] at this ⊢
    exact own_succ this
  subst hv'
  rw [← HN.out] at ho hg ⊢
  obtain ⟨cs, hcs⟩ := own_blk ho g' (by simp [Value.ownBlock])
  obtain ⟨y, hy⟩ : ∃ y : Int, (ints L)[i]? = some (.int .i64 y) := ⟨L[i]'(by have := HN.out; omega), by simp [ints, show i < L.length by have := HN.out; omega]⟩
  have cy := ho.cells (g := g') rfl i _ hy
  rw [Addr.add_lit, Nat.zero_add] at cy
  have fy : w2.frozen? ⟨g', i, none⟩ = false := hcs.free i
  have hR := HH.out.1.fr0 f2
  obtain ⟨d0, -, -, -, -, -, -, -, df⟩ := rcells_at hR.hd
  have d0f := df 0
  have hrg : r ≠ g' := hR.hd.ne hcs (by decide)
  have hgw : w.heap.size ≤ g' := hg g' (by simp [Value.ownBlock])
  have hown2 : (w2.setCell ⟨g', i, none⟩ (.int .i64 x)).ownsRow 0 3 1 (.slice (some ⟨g', 0, none⟩) n cap') n (ints (L.set i x)) := by
    obtain ⟨h1, h2⟩ := ho
    rcases h2 with ⟨h2, _⟩ | ⟨g9, cap9, cur, h2, hb, hgg, h3, h4, h5, h6⟩
    · cases h2
    · cases h2
      refine ⟨by simpa [ints] using h1, .inr ⟨g', cap', _, rfl, hb, Blk.set (w := w2) (show Blk w2 g' cur 3 from hgg) i _, h3, h4, by simpa using h5, ?_⟩⟩
      rw [Array.toList_setIfInBounds, List.take_set, Nat.mul_one] at *
      rw [h6]
      simp [ints, List.map_set]
  have hfin : QPost w r (.slice p n c) (L.set i x) M (.bool true) (.returned (.bool true)) ((w2.setCell ⟨g', i, none⟩ (.int .i64 x)).setCell ⟨r, 0, none⟩ (.slice (some ⟨g', 0, none⟩) n cap')) := by
    refine ⟨rfl, _, ⟨(hR.hd.other _ _ hrg).set 0 _, ?_⟩, .inr hg, ((f2.mono (by simp)).setCell _ _ (.inr hgw)).setCell _ _ (.inl (by simp))⟩
    rw [List.length_set, ← HN.out]
    exact own_fr hown2 ((Fr.refl [r] _).setCell _ _ (.inl (by simp))) (fun g hq hm => by simp [Value.ownBlock] at hq hm; omega)
  have HE := Lib.hid hfin
  have hgr : g' ≠ r := Ne.symm hrg
  clear ho f2 hg hcs hy hR hgw hown2 hfin c0 df
  go_wp2
  go_ret
  exact HE.out
/-- The part of a list from n on, as it is handed over. -/
theorem part_rd {w : World} {L : List Int} {p p' : Option Addr} {c c' n s : Nat} (h : RdF w (.slice p L.length c) L.length 1 (ints L)) (hs : s = L.length - n) (hn : n ≤ L.length) (hc : c' = c - n) (hp : c = n ∨ p' = p.map (·.add n)) : RdF w (.slice p' s c') (L.drop n).length 1 (ints (L.drop n)) := by
  obtain ⟨p0, c0, he, h1, h2, h3, h4⟩ := h
  cases he
  have hlen : (L.drop n).length = L.length - n := List.length_drop
  rw [hlen, hs, hc]
  refine ⟨_, _, rfl, by omega, by omega, by rw [ints_len, hlen, Nat.mul_one], ?_⟩
  by_cases hz : L.length - n = 0
  · exact .inl hz
  · rcases h4 with h4 | ⟨g, o, rfl, h4⟩
    · omega
    · rcases hp with hp | rfl
      · omega
      · refine .inr ⟨g, o + n, by simp [Addr.add], fun k u hk => ?_⟩
        rw [Nat.add_assoc]
        refine h4 (n + k) u ?_
        rw [← hk]
        simp [ints, List.getElem?_drop]
/-- How many Drop takes off. -/
def drn (len : Nat) (n : Int) : Nat := (max 0 (min n (len : Int))).toNat
set_option maxHeartbeats 1000000 in
theorem qdrop_low (w : World) (r : Nat) (v : Value) (L : List Int) (M : RM) (ni : Int) (n : Nat) (h : RqAt w r v L M) (hl : L.length ≤ 65536) (hn : n ≤ L.length) (hpk : L.length ≤ M.pk) (hni : ni < 0) (h0 : n = 0) :
    Calls Tryd.prog 65 #[.pointer (some ⟨r, 0, none⟩), .int .i64 ni] w (QPost w r v (L.drop n) (if n = 0 then M else M.sized (L.length - n)) (.int .i64 n)) := by
  obtain ⟨c0, -⟩ := rcells_at h.hd
  have hrd := h.rd (show L.length ≤ 1048576 by omega)
  obtain ⟨p, c, rfl, h1, h2, h3⟩ := h.form
  obtain ⟨D, hD⟩ : ∃ D, D = L.drop n := ⟨_, rfl⟩
  obtain ⟨M2, hM2⟩ : ∃ M2, M2 = (if n = 0 then M else M.sized (L.length - n)) := ⟨_, rfl⟩
  have hkd : D.length = L.length - n := by rw [hD]; exact List.length_drop
  have HC := Lib.hid (fun sv (hpr : RdF w sv D.length 1 (ints D)) => copied_any w sv D (-1) hpr (by omega))
  have HR := Lib.hid (fun (p' : Option Addr) (c' s : Nat) => hD ▸ part_rd (p' := p') (c' := c') (s := s) hrd)
  have e1 : nowM M L.length D.length = M2 := by
    rw [hkd, hM2]
    by_cases hz : n = 0
    · rw [if_pos hz, hz, Nat.sub_zero]
      exact nowM_same (by omega)
    · rw [if_neg hz]
      exact nowM_sized (by omega)
  have HW := Lib.hid (fun (w2 : World) (v' : Value) (f : Fr [] w w2) (ho : w2.ownsRow 0 3 1 v' D.length (ints D)) (hg : ∀ g, v'.ownBlock = some g → w.heap.size ≤ g) => e1 ▸ now_lay w w2 r _ v' L D M h f ho hg)
  rw [← hD, ← hM2]
  have HF := Lib.hid (show ∀ w' v', RqAt w' r v' D M2 → (∀ g, v'.ownBlock = some g → w.heap.size ≤ g) → Fr [r] w w' → QPost w r (.slice p L.length c) D M2 (.int .i64 n) (.returned (.int .i64 n)) w' from fun w' v' a b f => ⟨rfl, v', a, .inr b, f⟩)
  obtain ⟨v0, hv0⟩ : ∃ v0, v0 = Value.slice p L.length c := ⟨_, rfl⟩
  rw [← hv0] at HF ⊢
  clear hv0
  clear h hrd h1 h2 h3 hpk hkd e1 hD hM2
  obtain ⟨s, hs⟩ : ∃ s, s = L.length := ⟨_, rfl⟩
  rw [← hs] at hl c0 hn
  have HS := Lib.hid hs
  clear hs
  subst h0
  have hns : ni < (s : Int) := by omega
  go_enter Tryd.func65, Tryd.ntmps65
  go_wp2_with fail
  all_goals
    refine (HC.out _ ?_).mono ?_
    · first | exact HR.out _ _ _ (by have := HS.out; omega) (by have := HS.out; omega) (by omega) (.inl (by omega)) | exact HR.out _ _ _ (by have := HS.out; omega) (by have := HS.out; omega) (by omega) (.inr (by simp)) | exact HR.out _ _ _ (by have := HS.out; omega) (by have := HS.out; omega) (by omega) (.inr (by cases p <;> simp [Addr.add]))
    rintro e w2 ⟨v', rfl, ho, f2, hg⟩
    rw [cpy_full _ _ (by omega)] at ho
    have hnow := HW.out w2 v' f2 ho hg
    obtain ⟨p9, c9, rfl⟩ := own_form ho
    have HW2 := Lib.hid hnow
    clear ho f2 hg hnow
    go_wp2_with fail
    (with_reducible refine HW2.out.mono ?_)
    rintro e w4 ⟨⟨u, rfl⟩, h4, g4, f4⟩
    have H4 := Lib.hid (HF.out _ _ h4 g4 f4)
    clear h4 g4 f4
    go_wp2
    go_ret
    exact H4.out
set_option maxHeartbeats 1000000 in
theorem qdrop_in0 (w : World) (r : Nat) (v : Value) (L : List Int) (M : RM) (ni : Int) (n : Nat) (h : RqAt w r v L M) (hl : L.length ≤ 65536) (hn : n ≤ L.length) (hpk : L.length ≤ M.pk) (hni : ni = 0) (h0 : n = 0) :
    Calls Tryd.prog 65 #[.pointer (some ⟨r, 0, none⟩), .int .i64 ni] w (QPost w r v (L.drop n) (if n = 0 then M else M.sized (L.length - n)) (.int .i64 n)) := by
  obtain ⟨c0, -⟩ := rcells_at h.hd
  have hrd := h.rd (show L.length ≤ 1048576 by omega)
  obtain ⟨p, c, rfl, h1, h2, h3⟩ := h.form
  obtain ⟨D, hD⟩ : ∃ D, D = L.drop n := ⟨_, rfl⟩
  obtain ⟨M2, hM2⟩ : ∃ M2, M2 = (if n = 0 then M else M.sized (L.length - n)) := ⟨_, rfl⟩
  have hkd : D.length = L.length - n := by rw [hD]; exact List.length_drop
  have HC := Lib.hid (fun sv (hpr : RdF w sv D.length 1 (ints D)) => copied_any w sv D (-1) hpr (by omega))
  have HR := Lib.hid (fun (p' : Option Addr) (c' s : Nat) => hD ▸ part_rd (p' := p') (c' := c') (s := s) hrd)
  have e1 : nowM M L.length D.length = M2 := by
    rw [hkd, hM2]
    by_cases hz : n = 0
    · rw [if_pos hz, hz, Nat.sub_zero]
      exact nowM_same (by omega)
    · rw [if_neg hz]
      exact nowM_sized (by omega)
  have HW := Lib.hid (fun (w2 : World) (v' : Value) (f : Fr [] w w2) (ho : w2.ownsRow 0 3 1 v' D.length (ints D)) (hg : ∀ g, v'.ownBlock = some g → w.heap.size ≤ g) => e1 ▸ now_lay w w2 r _ v' L D M h f ho hg)
  rw [← hD, ← hM2]
  have HF := Lib.hid (show ∀ w' v', RqAt w' r v' D M2 → (∀ g, v'.ownBlock = some g → w.heap.size ≤ g) → Fr [r] w w' → QPost w r (.slice p L.length c) D M2 (.int .i64 n) (.returned (.int .i64 n)) w' from fun w' v' a b f => ⟨rfl, v', a, .inr b, f⟩)
  obtain ⟨v0, hv0⟩ : ∃ v0, v0 = Value.slice p L.length c := ⟨_, rfl⟩
  rw [← hv0] at HF ⊢
  clear hv0
  clear h hrd h1 h2 h3 hpk hkd e1 hD hM2
  obtain ⟨s, hs⟩ : ∃ s, s = L.length := ⟨_, rfl⟩
  rw [← hs] at hl c0 hn
  have HS := Lib.hid hs
  clear hs
  subst h0 hni
  go_enter Tryd.func65, Tryd.ntmps65
  go_wp2_with fail
  all_goals
    refine (HC.out _ ?_).mono ?_
    · first | exact HR.out _ _ _ (by have := HS.out; omega) (by have := HS.out; omega) (by omega) (.inl (by omega)) | exact HR.out _ _ _ (by have := HS.out; omega) (by have := HS.out; omega) (by omega) (.inr (by simp)) | exact HR.out _ _ _ (by have := HS.out; omega) (by have := HS.out; omega) (by omega) (.inr (by cases p <;> simp [Addr.add]))
    rintro e w2 ⟨v', rfl, ho, f2, hg⟩
    rw [cpy_full _ _ (by omega)] at ho
    have hnow := HW.out w2 v' f2 ho hg
    obtain ⟨p9, c9, rfl⟩ := own_form ho
    have HW2 := Lib.hid hnow
    clear ho f2 hg hnow
    go_wp2_with fail
    (with_reducible refine HW2.out.mono ?_)
    rintro e w4 ⟨⟨u, rfl⟩, h4, g4, f4⟩
    have H4 := Lib.hid (HF.out _ _ h4 g4 f4)
    clear h4 g4 f4
    go_wp2
    go_ret
    exact H4.out
set_option maxHeartbeats 1000000 in
theorem qdrop_in (w : World) (r : Nat) (v : Value) (L : List Int) (M : RM) (ni : Int) (n : Nat) (h : RqAt w r v L M) (hl : L.length ≤ 65536) (hn : n ≤ L.length) (hpk : L.length ≤ M.pk) (hni : 0 < ni) (hni2 : ni ≤ L.length) (h0 : ni = n) :
    Calls Tryd.prog 65 #[.pointer (some ⟨r, 0, none⟩), .int .i64 ni] w (QPost w r v (L.drop n) (if n = 0 then M else M.sized (L.length - n)) (.int .i64 n)) := by
  obtain ⟨c0, -⟩ := rcells_at h.hd
  have hrd := h.rd (show L.length ≤ 1048576 by omega)
  obtain ⟨p, c, rfl, h1, h2, h3⟩ := h.form
  obtain ⟨D, hD⟩ : ∃ D, D = L.drop n := ⟨_, rfl⟩
  obtain ⟨M2, hM2⟩ : ∃ M2, M2 = (if n = 0 then M else M.sized (L.length - n)) := ⟨_, rfl⟩
  have hkd : D.length = L.length - n := by rw [hD]; exact List.length_drop
  have HC := Lib.hid (fun sv (hpr : RdF w sv D.length 1 (ints D)) => copied_any w sv D (-1) hpr (by omega))
  have HR := Lib.hid (fun (p' : Option Addr) (c' s : Nat) => hD ▸ part_rd (p' := p') (c' := c') (s := s) hrd)
  have e1 : nowM M L.length D.length = M2 := by
    rw [hkd, hM2]
    by_cases hz : n = 0
    · rw [if_pos hz, hz, Nat.sub_zero]
      exact nowM_same (by omega)
    · rw [if_neg hz]
      exact nowM_sized (by omega)
  have HW := Lib.hid (fun (w2 : World) (v' : Value) (f : Fr [] w w2) (ho : w2.ownsRow 0 3 1 v' D.length (ints D)) (hg : ∀ g, v'.ownBlock = some g → w.heap.size ≤ g) => e1 ▸ now_lay w w2 r _ v' L D M h f ho hg)
  rw [← hD, ← hM2]
  have HF := Lib.hid (show ∀ w' v', RqAt w' r v' D M2 → (∀ g, v'.ownBlock = some g → w.heap.size ≤ g) → Fr [r] w w' → QPost w r (.slice p L.length c) D M2 (.int .i64 n) (.returned (.int .i64 n)) w' from fun w' v' a b f => ⟨rfl, v', a, .inr b, f⟩)
  obtain ⟨v0, hv0⟩ : ∃ v0, v0 = Value.slice p L.length c := ⟨_, rfl⟩
  rw [← hv0] at HF ⊢
  clear hv0
  clear h hrd h1 h2 h3 hpk hkd e1 hD hM2
  obtain ⟨s, hs⟩ : ∃ s, s = L.length := ⟨_, rfl⟩
  rw [← hs] at hl c0 hn hni2
  have HS := Lib.hid hs
  clear hs
  subst h0
  have hn0 : 0 < n := by omega
  go_enter Tryd.func65, Tryd.ntmps65
  go_wp2_with fail
  all_goals
    refine (HC.out _ ?_).mono ?_
    · first | exact HR.out _ _ _ (by have := HS.out; omega) (by have := HS.out; omega) (by omega) (.inl (by omega)) | exact HR.out _ _ _ (by have := HS.out; omega) (by have := HS.out; omega) (by omega) (.inr (by simp)) | exact HR.out _ _ _ (by have := HS.out; omega) (by have := HS.out; omega) (by omega) (.inr (by cases p <;> simp [Addr.add]))
    rintro e w2 ⟨v', rfl, ho, f2, hg⟩
    rw [cpy_full _ _ (by omega)] at ho
    have hnow := HW.out w2 v' f2 ho hg
    obtain ⟨p9, c9, rfl⟩ := own_form ho
    have HW2 := Lib.hid hnow
    clear ho f2 hg hnow
    go_wp2_with fail
    (with_reducible refine HW2.out.mono ?_)
    rintro e w4 ⟨⟨u, rfl⟩, h4, g4, f4⟩
    have H4 := Lib.hid (HF.out _ _ h4 g4 f4)
    clear h4 g4 f4
    go_wp2
    go_ret
    exact H4.out
set_option maxHeartbeats 1000000 in
theorem qdrop_over0 (w : World) (r : Nat) (v : Value) (L : List Int) (M : RM) (ni : Int) (n : Nat) (h : RqAt w r v L M) (hl : L.length ≤ 65536) (hn : n ≤ L.length) (hpk : L.length ≤ M.pk) (hni : 0 < ni) (hz : L.length = 0) (h0 : n = 0) :
    Calls Tryd.prog 65 #[.pointer (some ⟨r, 0, none⟩), .int .i64 ni] w (QPost w r v (L.drop n) (if n = 0 then M else M.sized (L.length - n)) (.int .i64 n)) := by
  obtain ⟨c0, -⟩ := rcells_at h.hd
  have hrd := h.rd (show L.length ≤ 1048576 by omega)
  obtain ⟨p, c, rfl, h1, h2, h3⟩ := h.form
  obtain ⟨D, hD⟩ : ∃ D, D = L.drop n := ⟨_, rfl⟩
  obtain ⟨M2, hM2⟩ : ∃ M2, M2 = (if n = 0 then M else M.sized (L.length - n)) := ⟨_, rfl⟩
  have hkd : D.length = L.length - n := by rw [hD]; exact List.length_drop
  have HC := Lib.hid (fun sv (hpr : RdF w sv D.length 1 (ints D)) => copied_any w sv D (-1) hpr (by omega))
  have HR := Lib.hid (fun (p' : Option Addr) (c' s : Nat) => hD ▸ part_rd (p' := p') (c' := c') (s := s) hrd)
  have e1 : nowM M L.length D.length = M2 := by
    rw [hkd, hM2]
    by_cases hz : n = 0
    · rw [if_pos hz, hz, Nat.sub_zero]
      exact nowM_same (by omega)
    · rw [if_neg hz]
      exact nowM_sized (by omega)
  have HW := Lib.hid (fun (w2 : World) (v' : Value) (f : Fr [] w w2) (ho : w2.ownsRow 0 3 1 v' D.length (ints D)) (hg : ∀ g, v'.ownBlock = some g → w.heap.size ≤ g) => e1 ▸ now_lay w w2 r _ v' L D M h f ho hg)
  rw [← hD, ← hM2]
  have HF := Lib.hid (show ∀ w' v', RqAt w' r v' D M2 → (∀ g, v'.ownBlock = some g → w.heap.size ≤ g) → Fr [r] w w' → QPost w r (.slice p L.length c) D M2 (.int .i64 n) (.returned (.int .i64 n)) w' from fun w' v' a b f => ⟨rfl, v', a, .inr b, f⟩)
  obtain ⟨v0, hv0⟩ : ∃ v0, v0 = Value.slice p L.length c := ⟨_, rfl⟩
  rw [← hv0] at HF ⊢
  clear hv0
  clear h hrd h1 h2 h3 hpk hkd e1 hD hM2
  obtain ⟨s, hs⟩ : ∃ s, s = L.length := ⟨_, rfl⟩
  rw [← hs] at hl c0 hn hz
  have HS := Lib.hid hs
  clear hs
  subst h0 hz
  have hni2 : ¬ ni < 0 := by omega
  go_enter Tryd.func65, Tryd.ntmps65
  go_wp2_with fail
  all_goals
    refine (HC.out _ ?_).mono ?_
    · first | exact HR.out _ _ _ (by have := HS.out; omega) (by have := HS.out; omega) (by omega) (.inl (by omega)) | exact HR.out _ _ _ (by have := HS.out; omega) (by have := HS.out; omega) (by omega) (.inr (by simp)) | exact HR.out _ _ _ (by have := HS.out; omega) (by have := HS.out; omega) (by omega) (.inr (by cases p <;> simp [Addr.add]))
    rintro e w2 ⟨v', rfl, ho, f2, hg⟩
    rw [cpy_full _ _ (by omega)] at ho
    have hnow := HW.out w2 v' f2 ho hg
    obtain ⟨p9, c9, rfl⟩ := own_form ho
    have HW2 := Lib.hid hnow
    clear ho f2 hg hnow
    go_wp2_with fail
    (with_reducible refine HW2.out.mono ?_)
    rintro e w4 ⟨⟨u, rfl⟩, h4, g4, f4⟩
    have H4 := Lib.hid (HF.out _ _ h4 g4 f4)
    clear h4 g4 f4
    go_wp2
    go_ret
    exact H4.out
set_option maxHeartbeats 1000000 in
theorem qdrop_over (w : World) (r : Nat) (v : Value) (L : List Int) (M : RM) (ni : Int) (n : Nat) (h : RqAt w r v L M) (hl : L.length ≤ 65536) (hn : n ≤ L.length) (hpk : L.length ≤ M.pk) (hni : (L.length : Int) < ni) (hz : 0 < L.length) (h0 : n = L.length) :
    Calls Tryd.prog 65 #[.pointer (some ⟨r, 0, none⟩), .int .i64 ni] w (QPost w r v (L.drop n) (if n = 0 then M else M.sized (L.length - n)) (.int .i64 n)) := by
  obtain ⟨c0, -⟩ := rcells_at h.hd
  have hrd := h.rd (show L.length ≤ 1048576 by omega)
  obtain ⟨p, c, rfl, h1, h2, h3⟩ := h.form
  obtain ⟨D, hD⟩ : ∃ D, D = L.drop n := ⟨_, rfl⟩
  obtain ⟨M2, hM2⟩ : ∃ M2, M2 = (if n = 0 then M else M.sized (L.length - n)) := ⟨_, rfl⟩
  have hkd : D.length = L.length - n := by rw [hD]; exact List.length_drop
  have HC := Lib.hid (fun sv (hpr : RdF w sv D.length 1 (ints D)) => copied_any w sv D (-1) hpr (by omega))
  have HR := Lib.hid (fun (p' : Option Addr) (c' s : Nat) => hD ▸ part_rd (p' := p') (c' := c') (s := s) hrd)
  have e1 : nowM M L.length D.length = M2 := by
    rw [hkd, hM2]
    by_cases hz : n = 0
    · rw [if_pos hz, hz, Nat.sub_zero]
      exact nowM_same (by omega)
    · rw [if_neg hz]
      exact nowM_sized (by omega)
  have HW := Lib.hid (fun (w2 : World) (v' : Value) (f : Fr [] w w2) (ho : w2.ownsRow 0 3 1 v' D.length (ints D)) (hg : ∀ g, v'.ownBlock = some g → w.heap.size ≤ g) => e1 ▸ now_lay w w2 r _ v' L D M h f ho hg)
  rw [← hD, ← hM2]
  have HF := Lib.hid (show ∀ w' v', RqAt w' r v' D M2 → (∀ g, v'.ownBlock = some g → w.heap.size ≤ g) → Fr [r] w w' → QPost w r (.slice p L.length c) D M2 (.int .i64 n) (.returned (.int .i64 n)) w' from fun w' v' a b f => ⟨rfl, v', a, .inr b, f⟩)
  obtain ⟨v0, hv0⟩ : ∃ v0, v0 = Value.slice p L.length c := ⟨_, rfl⟩
  rw [← hv0] at HF ⊢
  clear hv0
  clear h hrd h1 h2 h3 hpk hkd e1 hD hM2
  obtain ⟨s, hs⟩ : ∃ s, s = L.length := ⟨_, rfl⟩
  rw [← hs] at hl c0 hn hni hz h0
  have HS := Lib.hid hs
  clear hs
  have hni2 : ¬ ni < (s : Int) := by omega
  obtain rfl : n = s := h0
  go_enter Tryd.func65, Tryd.ntmps65
  go_wp2_with fail
  all_goals
    refine (HC.out _ ?_).mono ?_
    · first | exact HR.out _ _ _ (by have := HS.out; omega) (by have := HS.out; omega) (by omega) (.inl (by omega)) | exact HR.out _ _ _ (by have := HS.out; omega) (by have := HS.out; omega) (by omega) (.inr (by simp)) | exact HR.out _ _ _ (by have := HS.out; omega) (by have := HS.out; omega) (by omega) (.inr (by cases p <;> simp [Addr.add]))
    rintro e w2 ⟨v', rfl, ho, f2, hg⟩
    rw [cpy_full _ _ (by omega)] at ho
    have hnow := HW.out w2 v' f2 ho hg
    obtain ⟨p9, c9, rfl⟩ := own_form ho
    have HW2 := Lib.hid hnow
    clear ho f2 hg hnow
    go_wp2_with fail
    (with_reducible refine HW2.out.mono ?_)
    rintro e w4 ⟨⟨u, rfl⟩, h4, g4, f4⟩
    have H4 := Lib.hid (HF.out _ _ h4 g4 f4)
    clear h4 g4 f4
    go_wp2
    go_ret
    exact H4.out
theorem qdrop_any (w : World) (r : Nat) (v : Value) (L : List Int) (M : RM) (ni : Int) (h : RqAt w r v L M) (hl : L.length ≤ 65536) (hpk : L.length ≤ M.pk) :
    Calls Tryd.prog 65 #[.pointer (some ⟨r, 0, none⟩), .int .i64 ni] w (QPost w r v (L.drop (drn L.length ni)) (if drn L.length ni = 0 then M else M.sized (L.length - drn L.length ni)) (.int .i64 (drn L.length ni))) := by
  by_cases h1 : ni < 0
  · exact qdrop_low w r v L M ni (drn L.length ni) h hl (by unfold drn; omega) hpk h1 (by unfold drn; omega)
  · by_cases h0 : ni = 0
    · exact qdrop_in0 w r v L M ni (drn L.length ni) h hl (by unfold drn; omega) hpk h0 (by unfold drn; omega)
    · by_cases h2 : ni ≤ L.length
      · exact qdrop_in w r v L M ni (drn L.length ni) h hl (by unfold drn; omega) hpk (by omega) h2 (by unfold drn; omega)
      · by_cases h3 : L.length = 0
        · exact qdrop_over0 w r v L M ni (drn L.length ni) h hl (by unfold drn; omega) hpk (by omega) h3 (by unfold drn; omega)
        · exact qdrop_over w r v L M ni (drn L.length ni) h hl (by unfold drn; omega) hpk (by omega) (by omega) (by unfold drn; omega)
theorem qmark_bad (w : World) (r : Nat) (v : Value) (L : List Int) (M : RM) (lo hi : Int) (h : RqAt w r v L M) (hb : M.bad lo hi) : Calls Tryd.prog 68 #[.pointer (some ⟨r, 0, none⟩), .int .i64 lo, .int .i64 hi] w fun e w' => e = .returned (.int .i64 2) ∧ w = w' := by
  obtain ⟨c0, c1, -⟩ := rcells_at h.hd
  unfold RM.bad at hb
  generalize M.most = mo at *
  clear h c0
  by_cases h1 : lo < 0
  · clear hb
    go_enter Tryd.func68, Tryd.ntmps68
    go_wp2
    go_ret
    exact ⟨rfl, rfl⟩
  · by_cases h2 : hi ≤ lo
    · clear hb
      go_enter Tryd.func68, Tryd.ntmps68
      go_wp2
      go_ret
      exact ⟨rfl, rfl⟩
    · have h3 : (mo : Int) < hi := by omega
      clear hb
      go_enter Tryd.func68, Tryd.ntmps68
      go_wp2
      go_ret
      exact ⟨rfl, rfl⟩
set_option maxHeartbeats 1000000 in
theorem qmark_ok (w : World) (r : Nat) (v : Value) (L : List Int) (M : RM) (lo hi : Int) (h : RqAt w r v L M) (hb : ¬ M.bad lo hi) : Calls Tryd.prog 68 #[.pointer (some ⟨r, 0, none⟩), .int .i64 lo, .int .i64 hi] w (QPost w r v L (M.mark lo hi L.length) (.int .i64 0)) := by
  obtain ⟨c0, c1, c2, c3, c4, c5, c6, c7, cf⟩ := rcells_at h.hd
  have f2 := cf 2
  have f3 := cf 3
  have f4 := cf 4
  have f5 := cf 5
  have hn := h.notin
  obtain ⟨p, c, rfl, -, -, -⟩ := h.form
  have F : Fr [r] w ((((w.setCell ⟨r, 2, none⟩ (.bool true)).setCell ⟨r, 3, none⟩ (.int .i64 lo)).setCell ⟨r, 4, none⟩ (.int .i64 hi)).setCell ⟨r, 5, none⟩ (.bool (decide (hi ≤ (L.length : Int))))) := ((((Fr.refl _ w).setCell _ _ (.inl (by simp))).setCell _ _ (.inl (by simp))).setCell _ _ (.inl (by simp))).setCell _ _ (.inl (by simp))
  have HE := Lib.hid (show QPost w r (.slice p L.length c) L (M.mark lo hi L.length) (.int .i64 0) (.returned (.int .i64 0)) ((((w.setCell ⟨r, 2, none⟩ (.bool true)).setCell ⟨r, 3, none⟩ (.int .i64 lo)).setCell ⟨r, 4, none⟩ (.int .i64 hi)).setCell ⟨r, 5, none⟩ (.bool (decide (hi ≤ (L.length : Int))))) from
    ⟨rfl, _, ⟨(((h.hd.set 2 (.bool true)).set 3 (.int .i64 lo)).set 4 (.int .i64 hi)).set 5 (.bool (decide (hi ≤ (L.length : Int)))), own_fr h.own F (fun g hg hm => hn (by simp at hm; subst hm; simp [hg]))⟩, .inl rfl, F⟩)
  unfold RM.bad at hb
  have h1 : ¬ lo < 0 := fun h => hb (.inl h)
  have h2 : ¬ hi ≤ lo := fun h => hb (.inr (.inl h))
  have h3 : ¬ (M.most : Int) < hi := fun h => hb (.inr (.inr h))
  generalize L.length = n at *
  generalize M.mark lo hi n = M' at *
  generalize M.most = mo at *
  clear h F hn hb c6 c7 cf
  go_enter Tryd.func68, Tryd.ntmps68
  go_wp2
  go_ret
  exact HE.out
end Qu
end Go.Proofs.YtiimmndhinoaiaaDoor
