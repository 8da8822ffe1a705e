/-
  A ring: Push where the places are all taken. Printed by genRg.py.
-/
import Derived.Test.YtiimmndhinoaiaaDoorRgIB
namespace Go.Proofs.YtiimmndhinoaiaaDoor.RgI
open Go.RowKit ring
set_option linter.unusedVariables false
set_option linter.unusedSimpArgs false
attribute [local go_sem] Oper.semAt_some
attribute [local go_sem ↓] Go.wp_at_zero Go.wp_at_succ

theorem fill_step {L : List Int} {k N : Nat} {y : Int} (h : L[k]? = some y) (hN : L.length ≤ N) : (L.take k ++ List.replicate (N - k) 0).set k y = L.take (k + 1) ++ List.replicate (N - (k + 1)) 0 := by
  obtain ⟨hkl, hky⟩ := List.getElem?_eq_some_iff.1 h
  have hk : (L.take k).length = k := by rw [List.length_take]; omega
  rw [List.set_append_right _ _ (by omega), hk, Nat.sub_self, List.take_succ_eq_append_getElem hkl, List.append_assoc]
  obtain ⟨c, hc⟩ : ∃ c, N - k = c + 1 := ⟨N - k - 1, by omega⟩
  rw [hc, show N - (k + 1) = c by omega, hky]
  simp [List.replicate_succ]
theorem still_tail {P : Program} {id : Nat} {Q : Exit → Act → World → Prop} {a : Act} {w : World} {l : List Oper} (n : Nat) (hm : P.follows .mixedOrders = true) (hB : Region.lexTailB .any l.toArray n = true)
    (h : wpStill P l.toArray w.drew (fun a' => wpList P l.toArray Q (l.drop n) a' w.drew) (l.take n) a) : (Code.region id l.toArray true).wp P Q a w :=
  wp_region_still_tail n hm hB h

set_option maxRecDepth 100000 in
set_option maxHeartbeats 4000000 in
theorem push_growA (w : World) (b g : Nat) (Cs : List Int) (f : Nat) (L : List Int) (M : RM) (x : Int) (h : RingAt w b g Cs f L M) (hN0 : L.length = Cs.length) (hlm : L.length < M.most) (hmin : M.most ≤ 2 * L.length) :
    Calls Tryd.prog 44 #[.pointer (some ⟨b, 0, none⟩), .int .i64 x] w (PPost w b g (L ++ [x]) (M.sized (L.length + 1)) (.int .i64 0)) := by
  obtain ⟨most, hmost⟩ : ∃ most, M.most = most := ⟨_, rfl⟩
  have hne : ((L.length : Int) == (M.most : Int)) = false := by rw [beq_eq_false_iff_ne]; omega
  obtain ⟨c0, c1, c2, c3, c4, c5, c6, c7, c8, c9, cf⟩ := hdr_cells h.hd
  have hm64 := h.m64
  have hlo := h.ho.lt
  have ht := Lib.hid (there_any w b M.most (by omega) c1)
  have H := Lib.hid h
  have hblt : b < w.heap.size := World.block_lt_of_cell? w _ c0
  have hbn : b ≠ w.heap.size := Nat.ne_of_lt hblt
  obtain ⟨N, hN⟩ : ∃ N, N = L.length := ⟨_, rfl⟩
  rw [← hN0] at c0 hlo
  rw [hmost] at hmin hne c1 hlm hm64
  rw [← hN] at hmin hne c0 c3 hlm hlo
  have HN := Lib.hid (And.intro hN (And.intro hN0 hmost))
  have hnn : ((N : Int) == (N : Int)) = true := by simp
  have hw2 : IntKind.i64.wrap (2 * (N : Int)) = 2 * (N : Int) := by rw [IntKind.wrap_i64]; omega
  have hmk := make_els most (by omega)
  have hA : ∀ m cs i, ((w.drewN m).alloc (.cells cs 3)).cell? ⟨b, i, none⟩ = w.cell? ⟨b, i, none⟩ := fun m cs i => Fr.cell (S := []) (w := w) (((Fr.refl [] w).drewN m).alloc _) hblt (by simp)
  clear h c4 c5 c6 c7 c8 c9 cf hN hN0 hmost
  go_enter Tryd.func44, Tryd.ntmps44
  go_wp2_with (go_at_call 87; refine ht.out.mono ?_; rintro e w1 ⟨rfl, rfl⟩)
  go_quiet (fail)
  go_wp2_with fail
  go_quiet (fail)
  go_wp2_with fail
  refine still_tail 10 (by kernel_rfl) (by kernel_rfl) ?_
  simp only [List.take_succ_cons, List.take_zero, List.drop_succ_cons, List.drop_zero]
  iterate 10 still_step
  refine wpStill_nil ?_
  go_wp2_with fail
  generalize hwg : World.alloc (World.drewN w _) _ = wg
  obtain ⟨g2, hg2⟩ : ∃ z, z = w.heap.size := ⟨_, rfl⟩
  rw [← hg2]
  have hG : Blk wg g2 (zeros (most)) 3 := by rw [← hwg, hg2]; exact Blk.new _ _ _
  have frG : Fr [] w wg := by rw [← hwg]; exact ((Fr.refl [] w).drewN _).alloc _
  have HG := Lib.hid (And.intro hG (And.intro frG hg2))
  have hR := H.out.fr frG (by simp) (by simp)
  have HR := Lib.hid hR
  have hbg2 : b ≠ g2 := by omega
  have hgg2 : g ≠ g2 := by have := H.out.pl.lt; omega
  have hbg3 : g2 ≠ b := Ne.symm hbg2
  have hgg3 : g2 ≠ g := Ne.symm hgg2
  clear hwg hg2 hG frG hA hR c0 c1 c3 hmk hbn
  go_loopw [6, 51] (fun _ i wr => ∃ k : Nat, i = .int .i64 k ∧ k ≤ N ∧ Blk wr g2 (ints (L.take k ++ List.replicate (most - k) 0)).toArray 3 ∧ Fr [g2] wg wr) (fun _ i _ => N - (intOf i).toNat)
  case atStart => exact ⟨0, rfl, Nat.zero_le _, by simpa [zeros] using HG.out.1, Fr.refl _ _⟩
  case round =>
    obtain ⟨k, rfl, hk, hbr, hfr⟩ := hrel
    obtain ⟨wi, rfl⟩ : ∃ wi : World, wi = wr := ⟨_, rfl⟩
    have hRi := HR.out.fr hfr (by simpa using hbg2) (by simpa using hgg2)
    by_cases hlt : k < N
    · obtain ⟨hN, hN0, hmost⟩ := HN.out
      obtain ⟨c0, c1, c2, c3, c4, c5, c6, c7, c8, c9, cf⟩ := hdr_cells hRi.hd
      rw [← hN0, ← hN] at c0
      obtain ⟨q, hq⟩ : ∃ q, (f + k) % N = q := ⟨_, rfl⟩
      have hqN : q < N := by rw [← hq]; exact Nat.mod_lt _ (by omega)
      obtain ⟨y, hy⟩ : ∃ y, L[k]? = some y := ⟨_, List.getElem?_eq_getElem (by omega)⟩
      have hCq : Cs[q]? = some y := by
        have := hRi.ho.at_ k (by omega)
        rw [← hN0, ← hN, hq] at this
        rw [this, hy]
      have cq : wi.cell? ⟨g, q, none⟩ = some (.int .i64 y) := els_at hRi.pl hCq
      have hlen2 : (L.take k ++ List.replicate (most - k) 0).length = most := by rw [List.length_append, List.length_take, List.length_replicate]; omega
      obtain ⟨z, hz⟩ := els_some hbr (k := k) (by rw [hlen2]; omega)
      have fz := hbr.free k
      have hfs := fill_step (L := L) (k := k) (N := most) hy (by omega)
      have HI := Lib.hid (And.intro hbr (And.intro hfr hfs))
      have hp := Lib.hid (fun (W : World) (d0 : W.cell? ⟨b, 0, none⟩ = some (.slice (some ⟨g, 0, none⟩) N N)) (d2 : W.cell? ⟨b, 2, none⟩ = some (.int .i64 f)) => place_any W b g N f k d0 d2 (by omega) (by omega) hlo (by omega))
      rw [hq] at hp
      have k1 : (0 : Int) ≤ (k : Int) := by omega
      have k2 : (k : Int) < (most : Int) := by omega
      have q1 : (0 : Int) ≤ (q : Int) := by omega
      have q2 : (q : Int) < (N : Int) := by omega
      clear hbr hfr hfs hRi hq hCq hy hlen2 c1 c3 c4 c5 c6 c7 c8 c9 cf hN hN0 hmost
      go_wp2_with fail
      go_region_held3 (fun w' => w'.cell? ⟨b, 0, none⟩ = some (.slice (some ⟨g, 0, none⟩) N N) ∧ w'.cell? ⟨b, 2, none⟩ = some (.int .i64 f) ∧ w'.cell? ⟨g, q, none⟩ = some (.int .i64 y)) (first | exact ⟨c0, c2, cq⟩ | go_keep)
        ((go_at_call 88; refine (hp.out _ (by exact c0) (by exact c2)).mono ?_; rintro e w4 ⟨rfl, mm, rfl⟩))
      go_wp2_with fail
      go_roundw
      case rel =>
        refine ⟨k + 1, by go_num, by omega, ?_, ?_⟩
        · rw [← HI.out.2.2]
          exact Blk.els_put (W := _) HI.out.1 y
        · exact (HI.out.2.1.drewN _).setCell _ _ (.inl (by simp))
      case measure => simp [intOf]; omega
    · obtain rfl : N = k := by omega
      obtain ⟨hN, hN0, hmost⟩ := HN.out
      have hb1 := hRi.hd
      have hle1 := hRi.le
      rw [← hN] at hb1
      obtain ⟨Cs2, hCs2⟩ : ∃ Cs2, Cs2 = L ++ List.replicate (most - L.length) 0 := ⟨_, rfl⟩
      have hlc : Cs2.length = most := by rw [hCs2, List.length_append, List.length_replicate]; omega
      have hbr2 : Blk wi g2 (ints Cs2).toArray 3 := by rw [hCs2, ← hN]; rw [List.take_of_length_le (by omega)] at hbr; exact hbr
      have ho2 : Holds Cs2 0 L := by rw [hCs2]; exact Holds.fresh L 0 (most) (by omega) (by omega)
      have c0 := hb1.at 0 rfl
      have c2 := hb1.at 2 (v := .int .i64 f) rfl
      have f0 := hb1.free 0
      have f2 := hb1.free 2
      have hgw : w.heap.size ≤ g2 := by have := HG.out.2.2; omega
      have hb2 := (hb1.set 0 (.slice (some ⟨g2, 0, none⟩) (most) (most))).set 2 (.int .i64 0)
      have hbr3 := (hbr2.other ⟨b, 0, none⟩ (.slice (some ⟨g2, 0, none⟩) (most) (most)) hbg3).other ⟨b, 2, none⟩ (.int .i64 0) hbg3
      have fr3 : Fr [b, g] w ((wi.setCell ⟨b, 0, none⟩ (.slice (some ⟨g2, 0, none⟩) (most) (most))).setCell ⟨b, 2, none⟩ (.int .i64 0)) :=
        ((((HG.out.2.1.mono (T := [b, g]) (by simp)).trans hfr (by intro x hx; simp at hx; subst hx; exact .inr hgw)).setCell _ _ (.inl (by simp))).setCell _ _ (.inl (by simp)))
      obtain ⟨fz, hfz⟩ : ∃ fz : Nat, fz = 0 := ⟨_, rfl⟩
      have hRR : RingAt ((wi.setCell ⟨b, 0, none⟩ (.slice (some ⟨g2, 0, none⟩) (most) (most))).setCell ⟨b, 2, none⟩ (.int .i64 0)) b g2 Cs2 fz L M :=
        ⟨by rw [hlc, ← hN, hfz]; exact hb2, hbr3, by rw [hfz]; exact ho2, by rw [hlc]; omega, by omega⟩
      have hlen : L.length < Cs2.length := by rw [hlc]; omega
      have HX := Lib.hid (And.intro hRR (And.intro fr3 (And.intro hlen hmost)))
      clear hbr hfr hRi hb1 hbr2 ho2 hb2 hbr3 fr3 hRR hlen hCs2 hlc hN hN0 hfz hle1 hmost
      go_wp2_with fail
      generalize hwa : World.setCell (World.setCell wi _ _) _ _ = wa
      have HX2 : Hid (RingAt wa b g2 Cs2 fz L M ∧ Fr [b, g] w wa ∧ L.length < Cs2.length ∧ M.most = most) := by rw [← hwa]; exact HX
      obtain ⟨hR, fr0, hlen, hmost⟩ := HX2.out
      subst hmost
      clear hwa HX HX2 c0 c2 f0 f2 HG HR H HN hbg2 hbg3 hgg2 hgg3 hne hnn hw2 hmin ht
      obtain ⟨c0, c1, c2, c3, c4, c5, c6, c7, c8, c9, cf⟩ := hdr_cells hR.hd
      obtain ⟨k, hk⟩ : ∃ k, (fz + L.length) % Cs2.length = k := ⟨_, rfl⟩
      have hm := hR.m64
      have hN := hR.le
      have hf := hR.ho.lt
      have hkl : k < Cs2.length := by rw [← hk]; exact Nat.mod_lt _ (by omega)
      obtain ⟨y, hy⟩ := els_some hR.pl hkl
      have fy := hR.pl.free k
      have hbg := hR.ne
      have hgb : g2 ≠ b := Ne.symm hbg
      have hp := Lib.hid (fun (W : World) (d0 : W.cell? ⟨b, 0, none⟩ = some (.slice (some ⟨g2, 0, none⟩) Cs2.length Cs2.length)) (d2 : W.cell? ⟨b, 2, none⟩ = some (.int .i64 fz)) => place_any W b g2 Cs2.length fz L.length d0 d2 (by omega) (by omega) hf (by omega))
      rw [hk] at hp
      have k1 : (0 : Int) ≤ (k : Int) := by omega
      have k2 : (k : Int) < (Cs2.length : Int) := by omega
      have HK := Lib.hid (And.intro hk hR)
      clear hk c1 c4 c5 c6 c7 c8 c9 cf
      go_region_held3 (fun w' => w'.cell? ⟨b, 0, none⟩ = some (.slice (some ⟨g2, 0, none⟩) Cs2.length Cs2.length) ∧ w'.cell? ⟨b, 2, none⟩ = some (.int .i64 fz) ∧ w'.cell? ⟨b, 3, none⟩ = some (.int .i64 L.length)) (first | exact ⟨c0, c2, c3⟩ | go_keep)
        ((go_at_call 88; refine (hp.out _ (by exact c0) (by exact c2)).mono ?_; rintro e w4 ⟨rfl, mm, rfl⟩))
      simp only [Exit.then]
      generalize hwb : World.setCell _ ⟨g2, k, none⟩ (.int .i64 x) = wb
      obtain ⟨hk, hRR⟩ := HK.out
      have hbB : Blk wb b (hdr g2 Cs2.length fz L.length M) 118 := by rw [← hwb]; exact Blk.other (w := _) hRR.hd ⟨g2, k, none⟩ _ hbg
      have hgB : Blk wb g2 (ints (Cs2.set k x)).toArray 3 := by rw [← hwb]; exact Blk.els_put (W := _) hRR.pl x
      have frB : Fr [g2] wa wb := by rw [← hwb]; exact ((Fr.refl [g2] wa).drewN _).setCell ⟨g2, k, none⟩ _ (.inl (by simp))
      have d3 := hbB.at 3 (v := .int .i64 L.length) rfl
      have hse := Lib.hid (sized_any wb b g2 Cs2.length fz L.length M ((L.length : Int) + 1) (L.length + 1) (by omega) hbB (by omega))
      have hfin : ∀ w', Blk w' b (hdr g2 Cs2.length fz (L.length + 1) (M.sized (L.length + 1))) 118 → Fr [b] wb w' → PPost w b g (L ++ [x]) (M.sized (L.length + 1)) (.int .i64 0) (.returned (.int .i64 0)) w' := by
        intro w' hb' f'
        have hpu := hRR.ho.push hlen x
        rw [hk] at hpu
        refine ⟨rfl, g2, Cs2.set k x, fz, ⟨?_, f'.blk hgB (by simpa using hgb), hpu, by rw [List.length_set]; exact hN, hm⟩, .inr hgw, (fr0.trans frB (by intro x hx; simp at hx; subst hx; exact .inr hgw)).trans f' (by simp)⟩
        rw [List.length_set, List.length_append]; exact hb'
      have HF := Lib.hid hfin
      clear hwb hk hRR hbB hgB frB hfin c0 c2 c3 hy fy hbg hgb k1 k2 hp
      go_wp2_with fail
      (with_reducible refine hse.out.mono ?_)
      rintro e w5 ⟨⟨v, rfl⟩, hb5, f5⟩
      have HF5 := Lib.hid (HF.out _ hb5 f5)
      clear hb5 f5
      go_wp2
      go_ret
      exact HF5.out

set_option maxRecDepth 100000 in
set_option maxHeartbeats 4000000 in
theorem push_growB (w : World) (b g : Nat) (Cs : List Int) (f : Nat) (L : List Int) (M : RM) (x : Int) (h : RingAt w b g Cs f L M) (hN0 : L.length = Cs.length) (hlm : L.length < M.most) (hmin : 2 * L.length < M.most) :
    Calls Tryd.prog 44 #[.pointer (some ⟨b, 0, none⟩), .int .i64 x] w (PPost w b g (L ++ [x]) (M.sized (L.length + 1)) (.int .i64 0)) := by
  obtain ⟨most, hmost⟩ : ∃ most, M.most = most := ⟨_, rfl⟩
  have hne : ((L.length : Int) == (M.most : Int)) = false := by rw [beq_eq_false_iff_ne]; omega
  obtain ⟨c0, c1, c2, c3, c4, c5, c6, c7, c8, c9, cf⟩ := hdr_cells h.hd
  have hm64 := h.m64
  have hlo := h.ho.lt
  have ht := Lib.hid (there_any w b M.most (by omega) c1)
  have H := Lib.hid h
  have hblt : b < w.heap.size := World.block_lt_of_cell? w _ c0
  have hbn : b ≠ w.heap.size := Nat.ne_of_lt hblt
  obtain ⟨N, hN⟩ : ∃ N, N = L.length := ⟨_, rfl⟩
  rw [← hN0] at c0 hlo
  rw [hmost] at hmin hne c1 hlm hm64
  rw [← hN] at hmin hne c0 c3 hlm hlo
  have HN := Lib.hid (And.intro hN (And.intro hN0 hmost))
  have hnn : ((N : Int) == (N : Int)) = true := by simp
  have hw2 : IntKind.i64.wrap (2 * (N : Int)) = 2 * (N : Int) := by rw [IntKind.wrap_i64]; omega
  have hmk := (show ∀ w : World, (Instr.makeSlice 22 (.int .i64 (2 * (N : Int))) (.int .i64 (2 * (N : Int)))).run Tryd.prog w = .ok (.slice (some ⟨w.heap.size, 0, none⟩) (2 * N) (2 * N)) (w.alloc (.cells (zeros (2 * N)) 3)) from fun w => by exact make_els (2 * N) (by omega) w)
  have hA : ∀ m cs i, ((w.drewN m).alloc (.cells cs 3)).cell? ⟨b, i, none⟩ = w.cell? ⟨b, i, none⟩ := fun m cs i => Fr.cell (S := []) (w := w) (((Fr.refl [] w).drewN m).alloc _) hblt (by simp)
  clear h c4 c5 c6 c7 c8 c9 cf hN hN0 hmost
  go_enter Tryd.func44, Tryd.ntmps44
  go_wp2_with (go_at_call 87; refine ht.out.mono ?_; rintro e w1 ⟨rfl, rfl⟩)
  go_quiet (fail)
  go_wp2_with fail
  go_quiet (fail)
  go_wp2_with fail
  refine still_tail 10 (by kernel_rfl) (by kernel_rfl) ?_
  simp only [List.take_succ_cons, List.take_zero, List.drop_succ_cons, List.drop_zero]
  iterate 10 still_step
  refine wpStill_nil ?_
  go_wp2_with fail
  generalize hwg : World.alloc (World.drewN w _) _ = wg
  obtain ⟨g2, hg2⟩ : ∃ z, z = w.heap.size := ⟨_, rfl⟩
  rw [← hg2]
  have hG : Blk wg g2 (zeros ((2 * N))) 3 := by rw [← hwg, hg2]; exact Blk.new _ _ _
  have frG : Fr [] w wg := by rw [← hwg]; exact ((Fr.refl [] w).drewN _).alloc _
  have HG := Lib.hid (And.intro hG (And.intro frG hg2))
  have hR := H.out.fr frG (by simp) (by simp)
  have HR := Lib.hid hR
  have hbg2 : b ≠ g2 := by omega
  have hgg2 : g ≠ g2 := by have := H.out.pl.lt; omega
  have hbg3 : g2 ≠ b := Ne.symm hbg2
  have hgg3 : g2 ≠ g := Ne.symm hgg2
  clear hwg hg2 hG frG hA hR c0 c1 c3 hmk hbn
  go_loopw [6, 51] (fun _ i wr => ∃ k : Nat, i = .int .i64 k ∧ k ≤ N ∧ Blk wr g2 (ints (L.take k ++ List.replicate ((2 * N) - k) 0)).toArray 3 ∧ Fr [g2] wg wr) (fun _ i _ => N - (intOf i).toNat)
  case atStart => exact ⟨0, rfl, Nat.zero_le _, by simpa [zeros] using HG.out.1, Fr.refl _ _⟩
  case round =>
    obtain ⟨k, rfl, hk, hbr, hfr⟩ := hrel
    obtain ⟨wi, rfl⟩ : ∃ wi : World, wi = wr := ⟨_, rfl⟩
    have hRi := HR.out.fr hfr (by simpa using hbg2) (by simpa using hgg2)
    by_cases hlt : k < N
    · obtain ⟨hN, hN0, hmost⟩ := HN.out
      obtain ⟨c0, c1, c2, c3, c4, c5, c6, c7, c8, c9, cf⟩ := hdr_cells hRi.hd
      rw [← hN0, ← hN] at c0
      obtain ⟨q, hq⟩ : ∃ q, (f + k) % N = q := ⟨_, rfl⟩
      have hqN : q < N := by rw [← hq]; exact Nat.mod_lt _ (by omega)
      obtain ⟨y, hy⟩ : ∃ y, L[k]? = some y := ⟨_, List.getElem?_eq_getElem (by omega)⟩
      have hCq : Cs[q]? = some y := by
        have := hRi.ho.at_ k (by omega)
        rw [← hN0, ← hN, hq] at this
        rw [this, hy]
      have cq : wi.cell? ⟨g, q, none⟩ = some (.int .i64 y) := els_at hRi.pl hCq
      have hlen2 : (L.take k ++ List.replicate ((2 * N) - k) 0).length = (2 * N) := by rw [List.length_append, List.length_take, List.length_replicate]; omega
      obtain ⟨z, hz⟩ := els_some hbr (k := k) (by rw [hlen2]; omega)
      have fz := hbr.free k
      have hfs := fill_step (L := L) (k := k) (N := (2 * N)) hy (by omega)
      have HI := Lib.hid (And.intro hbr (And.intro hfr hfs))
      have hp := Lib.hid (fun (W : World) (d0 : W.cell? ⟨b, 0, none⟩ = some (.slice (some ⟨g, 0, none⟩) N N)) (d2 : W.cell? ⟨b, 2, none⟩ = some (.int .i64 f)) => place_any W b g N f k d0 d2 (by omega) (by omega) hlo (by omega))
      rw [hq] at hp
      have k1 : (0 : Int) ≤ (k : Int) := by omega
      have k2 : (k : Int) < (2 * (N : Int)) := by omega
      have q1 : (0 : Int) ≤ (q : Int) := by omega
      have q2 : (q : Int) < (N : Int) := by omega
      clear hbr hfr hfs hRi hq hCq hy hlen2 c1 c3 c4 c5 c6 c7 c8 c9 cf hN hN0 hmost
      go_wp2_with fail
      go_region_held3 (fun w' => w'.cell? ⟨b, 0, none⟩ = some (.slice (some ⟨g, 0, none⟩) N N) ∧ w'.cell? ⟨b, 2, none⟩ = some (.int .i64 f) ∧ w'.cell? ⟨g, q, none⟩ = some (.int .i64 y)) (first | exact ⟨c0, c2, cq⟩ | go_keep)
        ((go_at_call 88; refine (hp.out _ (by exact c0) (by exact c2)).mono ?_; rintro e w4 ⟨rfl, mm, rfl⟩))
      go_wp2_with fail
      go_roundw
      case rel =>
        refine ⟨k + 1, by go_num, by omega, ?_, ?_⟩
        · rw [← HI.out.2.2]
          exact Blk.els_put (W := _) HI.out.1 y
        · exact (HI.out.2.1.drewN _).setCell _ _ (.inl (by simp))
      case measure => simp [intOf]; omega
    · obtain rfl : N = k := by omega
      obtain ⟨hN, hN0, hmost⟩ := HN.out
      have hb1 := hRi.hd
      have hle1 := hRi.le
      rw [← hN] at hb1
      obtain ⟨Cs2, hCs2⟩ : ∃ Cs2, Cs2 = L ++ List.replicate ((2 * N) - L.length) 0 := ⟨_, rfl⟩
      have hlc : Cs2.length = (2 * N) := by rw [hCs2, List.length_append, List.length_replicate]; omega
      have hbr2 : Blk wi g2 (ints Cs2).toArray 3 := by rw [hCs2, ← hN]; rw [List.take_of_length_le (by omega)] at hbr; exact hbr
      have ho2 : Holds Cs2 0 L := by rw [hCs2]; exact Holds.fresh L 0 ((2 * N)) (by omega) (by omega)
      have c0 := hb1.at 0 rfl
      have c2 := hb1.at 2 (v := .int .i64 f) rfl
      have f0 := hb1.free 0
      have f2 := hb1.free 2
      have hgw : w.heap.size ≤ g2 := by have := HG.out.2.2; omega
      have hb2 := (hb1.set 0 (.slice (some ⟨g2, 0, none⟩) ((2 * N)) ((2 * N)))).set 2 (.int .i64 0)
      have hbr3 := (hbr2.other ⟨b, 0, none⟩ (.slice (some ⟨g2, 0, none⟩) ((2 * N)) ((2 * N))) hbg3).other ⟨b, 2, none⟩ (.int .i64 0) hbg3
      have fr3 : Fr [b, g] w ((wi.setCell ⟨b, 0, none⟩ (.slice (some ⟨g2, 0, none⟩) ((2 * N)) ((2 * N)))).setCell ⟨b, 2, none⟩ (.int .i64 0)) :=
        ((((HG.out.2.1.mono (T := [b, g]) (by simp)).trans hfr (by intro x hx; simp at hx; subst hx; exact .inr hgw)).setCell _ _ (.inl (by simp))).setCell _ _ (.inl (by simp)))
      obtain ⟨fz, hfz⟩ : ∃ fz : Nat, fz = 0 := ⟨_, rfl⟩
      have hRR : RingAt ((wi.setCell ⟨b, 0, none⟩ (.slice (some ⟨g2, 0, none⟩) ((2 * N)) ((2 * N)))).setCell ⟨b, 2, none⟩ (.int .i64 0)) b g2 Cs2 fz L M :=
        ⟨by rw [hlc, ← hN, hfz]; exact hb2, hbr3, by rw [hfz]; exact ho2, by rw [hlc]; omega, by omega⟩
      have hlen : L.length < Cs2.length := by rw [hlc]; omega
      have HX := Lib.hid (And.intro hRR (And.intro fr3 (And.intro hlen hmost)))
      clear hbr hfr hRi hb1 hbr2 ho2 hb2 hbr3 fr3 hRR hlen hCs2 hlc hN hN0 hfz hle1 hmost
      go_wp2_with fail
      generalize hwa : World.setCell (World.setCell wi _ _) _ _ = wa
      have HX2 : Hid (RingAt wa b g2 Cs2 fz L M ∧ Fr [b, g] w wa ∧ L.length < Cs2.length ∧ M.most = most) := by rw [← hwa]; exact HX
      obtain ⟨hR, fr0, hlen, hmost⟩ := HX2.out
      subst hmost
      clear hwa HX HX2 c0 c2 f0 f2 HG HR H HN hbg2 hbg3 hgg2 hgg3 hne hnn hw2 hmin ht
      obtain ⟨c0, c1, c2, c3, c4, c5, c6, c7, c8, c9, cf⟩ := hdr_cells hR.hd
      obtain ⟨k, hk⟩ : ∃ k, (fz + L.length) % Cs2.length = k := ⟨_, rfl⟩
      have hm := hR.m64
      have hN := hR.le
      have hf := hR.ho.lt
      have hkl : k < Cs2.length := by rw [← hk]; exact Nat.mod_lt _ (by omega)
      obtain ⟨y, hy⟩ := els_some hR.pl hkl
      have fy := hR.pl.free k
      have hbg := hR.ne
      have hgb : g2 ≠ b := Ne.symm hbg
      have hp := Lib.hid (fun (W : World) (d0 : W.cell? ⟨b, 0, none⟩ = some (.slice (some ⟨g2, 0, none⟩) Cs2.length Cs2.length)) (d2 : W.cell? ⟨b, 2, none⟩ = some (.int .i64 fz)) => place_any W b g2 Cs2.length fz L.length d0 d2 (by omega) (by omega) hf (by omega))
      rw [hk] at hp
      have k1 : (0 : Int) ≤ (k : Int) := by omega
      have k2 : (k : Int) < (Cs2.length : Int) := by omega
      have HK := Lib.hid (And.intro hk hR)
      clear hk c1 c4 c5 c6 c7 c8 c9 cf
      go_region_held3 (fun w' => w'.cell? ⟨b, 0, none⟩ = some (.slice (some ⟨g2, 0, none⟩) Cs2.length Cs2.length) ∧ w'.cell? ⟨b, 2, none⟩ = some (.int .i64 fz) ∧ w'.cell? ⟨b, 3, none⟩ = some (.int .i64 L.length)) (first | exact ⟨c0, c2, c3⟩ | go_keep)
        ((go_at_call 88; refine (hp.out _ (by exact c0) (by exact c2)).mono ?_; rintro e w4 ⟨rfl, mm, rfl⟩))
      simp only [Exit.then]
      generalize hwb : World.setCell _ ⟨g2, k, none⟩ (.int .i64 x) = wb
      obtain ⟨hk, hRR⟩ := HK.out
      have hbB : Blk wb b (hdr g2 Cs2.length fz L.length M) 118 := by rw [← hwb]; exact Blk.other (w := _) hRR.hd ⟨g2, k, none⟩ _ hbg
      have hgB : Blk wb g2 (ints (Cs2.set k x)).toArray 3 := by rw [← hwb]; exact Blk.els_put (W := _) hRR.pl x
      have frB : Fr [g2] wa wb := by rw [← hwb]; exact ((Fr.refl [g2] wa).drewN _).setCell ⟨g2, k, none⟩ _ (.inl (by simp))
      have d3 := hbB.at 3 (v := .int .i64 L.length) rfl
      have hse := Lib.hid (sized_any wb b g2 Cs2.length fz L.length M ((L.length : Int) + 1) (L.length + 1) (by omega) hbB (by omega))
      have hfin : ∀ w', Blk w' b (hdr g2 Cs2.length fz (L.length + 1) (M.sized (L.length + 1))) 118 → Fr [b] wb w' → PPost w b g (L ++ [x]) (M.sized (L.length + 1)) (.int .i64 0) (.returned (.int .i64 0)) w' := by
        intro w' hb' f'
        have hpu := hRR.ho.push hlen x
        rw [hk] at hpu
        refine ⟨rfl, g2, Cs2.set k x, fz, ⟨?_, f'.blk hgB (by simpa using hgb), hpu, by rw [List.length_set]; exact hN, hm⟩, .inr hgw, (fr0.trans frB (by intro x hx; simp at hx; subst hx; exact .inr hgw)).trans f' (by simp)⟩
        rw [List.length_set, List.length_append]; exact hb'
      have HF := Lib.hid hfin
      clear hwb hk hRR hbB hgB frB hfin c0 c2 c3 hy fy hbg hgb k1 k2 hp
      go_wp2_with fail
      (with_reducible refine hse.out.mono ?_)
      rintro e w5 ⟨⟨v, rfl⟩, hb5, f5⟩
      have HF5 := Lib.hid (HF.out _ hb5 f5)
      clear hb5 f5
      go_wp2
      go_ret
      exact HF5.out

/-- Push, where there is room for one more. -/
theorem push_any (w : World) (b g : Nat) (Cs : List Int) (f : Nat) (L : List Int) (M : RM) (x : Int) (h : RingAt w b g Cs f L M) (hlm : L.length < M.most) :
    Calls Tryd.prog 44 #[.pointer (some ⟨b, 0, none⟩), .int .i64 x] w (PPost w b g (L ++ [x]) (M.sized (L.length + 1)) (.int .i64 0)) := by
  have hle := h.ho.le
  by_cases h1 : L.length < Cs.length
  · exact push_room w b g Cs f L M x h h1
  · by_cases h2 : M.most ≤ 2 * L.length
    · exact push_growA w b g Cs f L M x h (by omega) hlm h2
    · exact push_growB w b g Cs f L M x h (by omega) hlm (by omega)

end Go.Proofs.YtiimmndhinoaiaaDoor.RgI
