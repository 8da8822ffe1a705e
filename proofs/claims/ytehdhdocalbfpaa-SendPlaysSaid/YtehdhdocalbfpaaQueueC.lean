/-
  Push of a ring of numbers, where the places are all taken.
-/
import Derived.Test.YtehdhdocalbfpaaQueueB
import Derived.LoopIn
namespace Go.Proofs.Ytehdhdocalbfpaa
open Go.RowKit ring
set_option linter.unusedVariables false
attribute [local go_sem ↓] Go.wp_at_zero Go.wp_at_succ

theorem fill_step {L : List Int} {k N : Nat} (h : k < L.length) (hN : L.length ≤ N) : (L.take k ++ List.replicate (N - k) 0).set k (L.getD k 0) = L.take (k + 1) ++ List.replicate (N - (k + 1)) 0 := by
  have hk : (L.take k).length = k := by rw [List.length_take]; omega
  rw [List.set_append_right _ _ (by omega), hk, Nat.sub_self, List.take_succ_eq_append_getElem h, List.append_assoc]
  obtain ⟨c, hc⟩ : ∃ c, N - k = c + 1 := ⟨N - k - 1, by omega⟩
  rw [hc, show N - (k + 1) = c by omega]
  simp [List.replicate_succ, List.getD_eq_getElem?_getD, h]
theorem region_tail {P : Program} {id : Nat} {Q : Exit → Act → World → Prop} {a : Act} {w : World} {l : List Oper} (n : Nat) (hm : P.follows .mixedOrders = true) (hB : Region.lexTailB .any l.toArray n = true)
    (h : wpStill P l.toArray w.drew (fun a' => wpList P l.toArray Q (l.drop n) a' w.drew) (l.take n) a) : (Code.region id l.toArray true).wp P Q a w :=
  wp_region_still_tail n hm hB h

set_option maxRecDepth 100000 in
set_option maxHeartbeats 4000000 in
theorem push_growA (w : World) (b g : Nat) (Cs : List Int) (f : Nat) (L : List Int) (most peak : Nat) (x : Int) (h : RingAt w b g Cs f L most peak) (hN0 : L.length = Cs.length) (hlm : L.length < most) (hmin : most ≤ 2 * L.length) :
    Calls Try.prog 11 #[.pointer (some ⟨b, 0, none⟩), .int .i64 x] w (PushPost w b g L most peak x) := by
  have hne : ((L.length : Int) == (most : Int)) = false := by rw [beq_eq_false_iff_ne]; omega
  obtain ⟨r0, c0, c1, c2, c3, c4, c8, c9, cf⟩ := h.cells
  have hm64 := h.m64
  have hlo := h.ho.lt
  have ht := Lib.hid (there_any w b most (by omega) c1)
  have H := Lib.hid h
  have hblt : b < w.heap.size := World.block_lt_of_cell? w _ c0
  have hbn : b ≠ w.heap.size := Nat.ne_of_lt hblt
  obtain ⟨N, hN⟩ : ∃ N, N = L.length := ⟨_, rfl⟩
  rw [← hN0] at c0 hlo
  rw [← hN] at hmin hne c0 c3 hlm hlo
  have HN := Lib.hid (And.intro hN hN0)
  have hnn : ((N : Int) == (N : Int)) = true := by simp
  have hw2 : IntKind.i64.wrap (2 * (N : Int)) = 2 * (N : Int) := by rw [IntKind.wrap_i64]; omega
  have hmk := make_ints most (by omega)
  have hA : ∀ m cs i, ((w.drewN m).alloc (.cells cs 3)).cell? ⟨b, i, none⟩ = w.cell? ⟨b, i, none⟩ := fun m cs i => Fr.cell (S := []) (w := w) (((Fr.refl [] w).drewN m).alloc _) hblt (by simp)
  clear h c4 c8 c9 cf hN hN0
  go_enter Try.func11, Try.ntmps11
  go_wp2_with (go_at_call 35; refine ht.out.mono ?_; rintro e w1 ⟨rfl, rfl⟩)
  go_quiet (fail)
  go_wp2_with fail
  go_quiet (fail)
  go_wp2_with fail
  refine region_tail 10 (by kernel_rfl) (by kernel_rfl) ?_
  simp only [List.take_succ_cons, List.take_zero, List.drop_succ_cons, List.drop_zero]
  iterate 10 still_step
  refine wpStill_nil ?_
  go_wp2_with fail
  generalize hwg : World.alloc (World.drewN w _) _ = wg
  obtain ⟨g2, hg2⟩ : ∃ z, z = w.heap.size := ⟨_, rfl⟩
  rw [← hg2]
  have hG : Blk wg g2 (zeros (most)) 3 := by rw [← hwg, hg2]; exact Blk.new _ _ _
  have frG : Fr [] w wg := by rw [← hwg]; exact ((Fr.refl [] w).drewN _).alloc _
  have HG := Lib.hid (And.intro hG (And.intro frG hg2))
  have hR := H.out.fr frG (by simp) (by simp)
  have HR := Lib.hid hR
  have hbg2 : b ≠ g2 := by omega
  have hgg2 : g ≠ g2 := by have := H.out.pl.lt; omega
  have hbg3 : g2 ≠ b := Ne.symm hbg2
  have hgg3 : g2 ≠ g := Ne.symm hgg2
  clear hwg hg2 hG frG hA hR c0 c1 c3 hmk hbn
  go_loopw [6, 51] (fun _ i wr => ∃ k : Nat, i = .int .i64 k ∧ k ≤ N ∧ Blk wr g2 (ints (L.take k ++ List.replicate (most - k) 0)).toArray 3 ∧ Fr [g2] wg wr) (fun _ i _ => N - (intOf i).toNat)
  case atStart => exact ⟨0, rfl, Nat.zero_le _, by simpa [zeros] using HG.out.1, Fr.refl _ _⟩
  case round =>
    obtain ⟨k, rfl, hk, hbr, hfr⟩ := hrel
    obtain ⟨wi, rfl⟩ : ∃ wi : World, wi = wr := ⟨_, rfl⟩
    have hRi := HR.out.fr hfr (by simpa using hbg2) (by simpa using hgg2)
    by_cases hlt : k < N
    · obtain ⟨hN, hN0⟩ := HN.out
      obtain ⟨r1, c0, c1, c2, c3, c4, c8, c9, cf⟩ := hRi.cells
      rw [← hN0, ← hN] at c0
      obtain ⟨q, hq⟩ : ∃ q, (f + k) % N = q := ⟨_, rfl⟩
      have hqN : q < N := by rw [← hq]; exact Nat.mod_lt _ (by omega)
      have hCq : Cs[q]? = some (L.getD k 0) := by
        have := hRi.ho.at_ k (by omega)
        rw [← hN0, ← hN, hq] at this
        rw [this]
        exact getD_int (by omega)
      obtain ⟨y, hy⟩ : ∃ y, L.getD k 0 = y := ⟨_, rfl⟩
      rw [hy] at hCq
      have cq : wi.cell? ⟨g, q, none⟩ = some (.int .i64 y) := hRi.pl.at q (by simp [ints, hCq])
      have hlen2 : (L.take k ++ List.replicate (most - k) 0).length = most := by rw [List.length_append, List.length_take, List.length_replicate]; omega
      obtain ⟨z, hz⟩ : ∃ z, wi.cell? ⟨g2, k, none⟩ = some (.int .i64 z) := ⟨_, hbr.int (by rw [hlen2]; omega)⟩
      have fz := hbr.free k
      have hfs := fill_step (L := L) (k := k) (N := most) (by omega) (by omega)
      rw [hy] at hfs
      have HI := Lib.hid (And.intro hbr (And.intro hfr hfs))
      have hp := Lib.hid (fun (W : World) (d0 : W.cell? ⟨b, 0, none⟩ = some (.slice (some ⟨g, 0, none⟩) N N)) (d2 : W.cell? ⟨b, 2, none⟩ = some (.int .i64 f)) => place_any W b g N f k d0 d2 (by omega) (by omega) hlo (by omega))
      rw [hq] at hp
      have k1 : (0 : Int) ≤ (k : Int) := by omega
      have k2 : (k : Int) < (most : Int) := by omega
      have q1 : (0 : Int) ≤ (q : Int) := by omega
      have q2 : (q : Int) < (N : Int) := by omega
      clear hbr hfr hfs hRi hq hCq hy hlen2 c1 c3 c4 c8 c9 cf hN hN0
      go_wp2_with fail
      go_region_held3 (fun w' => w'.cell? ⟨b, 0, none⟩ = some (.slice (some ⟨g, 0, none⟩) N N) ∧ w'.cell? ⟨b, 2, none⟩ = some (.int .i64 f) ∧ w'.cell? ⟨g, q, none⟩ = some (.int .i64 y)) (first | exact ⟨c0, c2, cq⟩ | go_keep)
        ((go_at_call 36; refine (hp.out _ (by exact c0) (by exact c2)).mono ?_; rintro e w4 ⟨rfl, mm, rfl⟩))
      go_wp2_with fail
      go_roundw
      case rel =>
        refine ⟨k + 1, by go_num, by omega, ?_, ?_⟩
        · rw [← HI.out.2.2, ← ints_set]
          exact Blk.set (w := _) HI.out.1 k _
        · exact (HI.out.2.1.drewN _).setCell _ _ (.inl (by simp))
      case measure => simp [intOf]; omega
    · obtain rfl : N = k := by omega
      obtain ⟨hN, hN0⟩ := HN.out
      obtain ⟨r1, hb1⟩ := hRi.hd
      have hle1 := hRi.le
      have hpk1 := hRi.pk
      rw [← hN] at hb1
      obtain ⟨Cs2, hCs2⟩ : ∃ Cs2, Cs2 = L ++ List.replicate (most - L.length) 0 := ⟨_, rfl⟩
      have hlc : Cs2.length = most := by rw [hCs2, List.length_append, List.length_replicate]; omega
      have hbr2 : Blk wi g2 (ints Cs2).toArray 3 := by rw [hCs2, ← hN]; rw [List.take_of_length_le (by omega)] at hbr; exact hbr
      have ho2 : Holds Cs2 0 L := by rw [hCs2]; exact Holds.fresh L 0 (most) (by omega) (by omega)
      have c0 := hb1.at 0 rfl
      have c2 := hb1.at 2 (v := .int .i64 f) rfl
      have f0 := hb1.free 0
      have f2 := hb1.free 2
      have hgw : w.heap.size ≤ g2 := by have := HG.out.2.2; omega
      have hb2 := (hb1.set 0 (.slice (some ⟨g2, 0, none⟩) (most) (most))).set 2 (.int .i64 0)
      have hbr3 := (hbr2.other ⟨b, 0, none⟩ (.slice (some ⟨g2, 0, none⟩) (most) (most)) hbg3).other ⟨b, 2, none⟩ (.int .i64 0) hbg3
      have fr3 : Fr [b, g] w ((wi.setCell ⟨b, 0, none⟩ (.slice (some ⟨g2, 0, none⟩) (most) (most))).setCell ⟨b, 2, none⟩ (.int .i64 0)) :=
        ((((HG.out.2.1.mono (T := [b, g]) (by simp)).trans hfr (by intro x hx; simp at hx; subst hx; exact .inr hgw)).setCell _ _ (.inl (by simp))).setCell _ _ (.inl (by simp)))
      obtain ⟨fz, hfz⟩ : ∃ fz : Nat, fz = 0 := ⟨_, rfl⟩
      have hRR : RingAt ((wi.setCell ⟨b, 0, none⟩ (.slice (some ⟨g2, 0, none⟩) (most) (most))).setCell ⟨b, 2, none⟩ (.int .i64 0)) b g2 Cs2 fz L most peak :=
        ⟨⟨r1, by rw [hlc, ← hN, hfz]; exact hb2⟩, hbr3, by rw [hfz]; exact ho2, by rw [hlc]; omega, hm64, hpk1⟩
      have hlen : L.length < Cs2.length := by rw [hlc]; omega
      have HX := Lib.hid (And.intro hRR (And.intro fr3 hlen))
      clear hbr hfr hRi hb1 hbr2 ho2 hb2 hbr3 fr3 hRR hlen hCs2 hlc hN hN0 hfz hle1 hpk1
      go_wp2_with fail
      generalize hwa : World.setCell (World.setCell wi _ _) _ _ = wa
      have HX2 : Hid (RingAt wa b g2 Cs2 fz L most peak ∧ Fr [b, g] w wa ∧ L.length < Cs2.length) := by rw [← hwa]; exact HX
      obtain ⟨hR, fr0, hlen⟩ := HX2.out
      clear hwa HX HX2 c0 c2 f0 f2 HG HR H HN hbg2 hbg3 hgg2 hgg3 hne hnn hw2 hmin ht
      obtain ⟨r, c0, c1, c2, c3, c4, c8, c9, cf⟩ := hR.cells
      obtain ⟨k, hk⟩ : ∃ k, (fz + L.length) % Cs2.length = k := ⟨_, rfl⟩
      have hm := hR.m64
      have hN := hR.le
      have hf := hR.ho.lt
      have hkl : k < Cs2.length := by rw [← hk]; exact Nat.mod_lt _ (by omega)
      obtain ⟨y, hy⟩ : ∃ y, wa.cell? ⟨g2, k, none⟩ = some (.int .i64 y) := ⟨_, hR.pl.int hkl⟩
      have fy := hR.pl.free k
      have hbg := hR.ne
      have hgb : g2 ≠ b := Ne.symm hbg
      have hp := Lib.hid (fun (W : World) (d0 : W.cell? ⟨b, 0, none⟩ = some (.slice (some ⟨g2, 0, none⟩) Cs2.length Cs2.length)) (d2 : W.cell? ⟨b, 2, none⟩ = some (.int .i64 fz)) => place_any W b g2 Cs2.length fz L.length d0 d2 (by omega) (by omega) hf (by omega))
      rw [hk] at hp
      have k1 : (0 : Int) ≤ (k : Int) := by omega
      have k2 : (k : Int) < (Cs2.length : Int) := by omega
      have HK := Lib.hid (And.intro hk hR)
      clear hk c1 c4 c8 c9 cf
      go_region_held3 (fun w' => w'.cell? ⟨b, 0, none⟩ = some (.slice (some ⟨g2, 0, none⟩) Cs2.length Cs2.length) ∧ w'.cell? ⟨b, 2, none⟩ = some (.int .i64 fz) ∧ w'.cell? ⟨b, 3, none⟩ = some (.int .i64 L.length)) (first | exact ⟨c0, c2, c3⟩ | go_keep)
        ((go_at_call 36; refine (hp.out _ (by exact c0) (by exact c2)).mono ?_; rintro e w4 ⟨rfl, mm, rfl⟩))
      simp only [Exit.then]
      generalize hwb : World.setCell _ ⟨g2, k, none⟩ (.int .i64 x) = wb
      obtain ⟨hk, hRR⟩ := HK.out
      obtain ⟨r2, hb0⟩ := hRR.hd
      have hbB : Blk wb b #[.slice (some ⟨g2, 0, none⟩) Cs2.length Cs2.length, .int .i64 most, .int .i64 fz, .int .i64 L.length, .bool false, .int .i64 0, .int .i64 0, .bool false, .int .i64 peak, .int .i64 r2] 87 := by rw [← hwb]; exact Blk.other (w := _) hb0 ⟨g2, k, none⟩ _ hbg
      have hgB : Blk wb g2 (ints (Cs2.set k x)).toArray 3 := by rw [← hwb, ← ints_set]; exact Blk.set (w := _) hRR.pl k _
      have frB : Fr [g2] wa wb := by rw [← hwb]; exact ((Fr.refl [g2] wa).drewN _).setCell ⟨g2, k, none⟩ _ (.inl (by simp))
      have d3 := hbB.at 3 (v := .int .i64 L.length) rfl
      have d4 := hbB.at 4 (v := .bool false) rfl
      have d8 := hbB.at 8 (v := .int .i64 peak) rfl
      have e3 := hbB.free 3
      have e8 := hbB.free 8
      have hse := Lib.hid (sized_int wb b ((L.length : Int) + 1) (L.length + 1) L.length peak (by omega) d3 d4 d8 e3 e8 (by omega))
      have hbC := (hbB.set 3 (.int .i64 (L.length + 1 : Nat))).set 8 (.int .i64 (max peak (L.length + 1) : Nat))
      have hfin : PushPost w b g L most peak x (.returned (.int .i64 0)) ((wb.setCell ⟨b, 3, none⟩ (.int .i64 (L.length + 1 : Nat))).setCell ⟨b, 8, none⟩ (.int .i64 (max peak (L.length + 1) : Nat))) := by
        have hpu := hRR.ho.push hlen x
        rw [hk] at hpu
        have hlk := hRR.ho.le
        have hpk := hRR.pk
        refine ⟨rfl, g2, Cs2.set k x, fz, ⟨⟨r2, ?_⟩, (hgB.other _ _ hgb).other _ _ hgb, hpu, by rw [List.length_set]; exact hN, hm, by rw [List.length_append]; simp; omega⟩, .inr hgw, ?_⟩
        · rw [List.length_set, List.length_append]; exact hbC
        · exact ((fr0.trans frB (by intro x hx; simp at hx; subst hx; exact .inr hgw)).setCell _ _ (.inl (by simp))).setCell _ _ (.inl (by simp))
      have HF := Lib.hid hfin
      clear hwb hk hRR hb0 hbB hgB frB d4 d8 e3 e8 hbC hfin c0 c2 c3 hy fy hbg hgb k1 k2 hp
      go_wp2_with fail
      (with_reducible refine hse.out.mono ?_)
      rintro e w5 ⟨⟨v, rfl⟩, rfl⟩
      go_wp2
      go_ret
      exact HF.out

set_option maxRecDepth 100000 in
set_option maxHeartbeats 4000000 in
theorem push_growB (w : World) (b g : Nat) (Cs : List Int) (f : Nat) (L : List Int) (most peak : Nat) (x : Int) (h : RingAt w b g Cs f L most peak) (hN0 : L.length = Cs.length) (hlm : L.length < most) (hmin : 2 * L.length < most) :
    Calls Try.prog 11 #[.pointer (some ⟨b, 0, none⟩), .int .i64 x] w (PushPost w b g L most peak x) := by
  have hne : ((L.length : Int) == (most : Int)) = false := by rw [beq_eq_false_iff_ne]; omega
  obtain ⟨r0, c0, c1, c2, c3, c4, c8, c9, cf⟩ := h.cells
  have hm64 := h.m64
  have hlo := h.ho.lt
  have ht := Lib.hid (there_any w b most (by omega) c1)
  have H := Lib.hid h
  have hblt : b < w.heap.size := World.block_lt_of_cell? w _ c0
  have hbn : b ≠ w.heap.size := Nat.ne_of_lt hblt
  obtain ⟨N, hN⟩ : ∃ N, N = L.length := ⟨_, rfl⟩
  rw [← hN0] at c0 hlo
  rw [← hN] at hmin hne c0 c3 hlm hlo
  have HN := Lib.hid (And.intro hN hN0)
  have hnn : ((N : Int) == (N : Int)) = true := by simp
  have hw2 : IntKind.i64.wrap (2 * (N : Int)) = 2 * (N : Int) := by rw [IntKind.wrap_i64]; omega
  have hmk := (show ∀ w : World, (Instr.makeSlice 85 (.int .i64 (2 * (N : Int))) (.int .i64 (2 * (N : Int)))).run Try.prog w = .ok (.slice (some ⟨w.heap.size, 0, none⟩) (2 * N) (2 * N)) (w.alloc (.cells (zeros (2 * N)) 3)) from fun w => by exact make_ints (2 * N) (by omega) w)
  have hA : ∀ m cs i, ((w.drewN m).alloc (.cells cs 3)).cell? ⟨b, i, none⟩ = w.cell? ⟨b, i, none⟩ := fun m cs i => Fr.cell (S := []) (w := w) (((Fr.refl [] w).drewN m).alloc _) hblt (by simp)
  clear h c4 c8 c9 cf hN hN0
  go_enter Try.func11, Try.ntmps11
  go_wp2_with (go_at_call 35; refine ht.out.mono ?_; rintro e w1 ⟨rfl, rfl⟩)
  go_quiet (fail)
  go_wp2_with fail
  go_quiet (fail)
  go_wp2_with fail
  refine region_tail 10 (by kernel_rfl) (by kernel_rfl) ?_
  simp only [List.take_succ_cons, List.take_zero, List.drop_succ_cons, List.drop_zero]
  iterate 10 still_step
  refine wpStill_nil ?_
  go_wp2_with fail
  generalize hwg : World.alloc (World.drewN w _) _ = wg
  obtain ⟨g2, hg2⟩ : ∃ z, z = w.heap.size := ⟨_, rfl⟩
  rw [← hg2]
  have hG : Blk wg g2 (zeros ((2 * N))) 3 := by rw [← hwg, hg2]; exact Blk.new _ _ _
  have frG : Fr [] w wg := by rw [← hwg]; exact ((Fr.refl [] w).drewN _).alloc _
  have HG := Lib.hid (And.intro hG (And.intro frG hg2))
  have hR := H.out.fr frG (by simp) (by simp)
  have HR := Lib.hid hR
  have hbg2 : b ≠ g2 := by omega
  have hgg2 : g ≠ g2 := by have := H.out.pl.lt; omega
  have hbg3 : g2 ≠ b := Ne.symm hbg2
  have hgg3 : g2 ≠ g := Ne.symm hgg2
  clear hwg hg2 hG frG hA hR c0 c1 c3 hmk hbn
  go_loopw [6, 51] (fun _ i wr => ∃ k : Nat, i = .int .i64 k ∧ k ≤ N ∧ Blk wr g2 (ints (L.take k ++ List.replicate ((2 * N) - k) 0)).toArray 3 ∧ Fr [g2] wg wr) (fun _ i _ => N - (intOf i).toNat)
  case atStart => exact ⟨0, rfl, Nat.zero_le _, by simpa [zeros] using HG.out.1, Fr.refl _ _⟩
  case round =>
    obtain ⟨k, rfl, hk, hbr, hfr⟩ := hrel
    obtain ⟨wi, rfl⟩ : ∃ wi : World, wi = wr := ⟨_, rfl⟩
    have hRi := HR.out.fr hfr (by simpa using hbg2) (by simpa using hgg2)
    by_cases hlt : k < N
    · obtain ⟨hN, hN0⟩ := HN.out
      obtain ⟨r1, c0, c1, c2, c3, c4, c8, c9, cf⟩ := hRi.cells
      rw [← hN0, ← hN] at c0
      obtain ⟨q, hq⟩ : ∃ q, (f + k) % N = q := ⟨_, rfl⟩
      have hqN : q < N := by rw [← hq]; exact Nat.mod_lt _ (by omega)
      have hCq : Cs[q]? = some (L.getD k 0) := by
        have := hRi.ho.at_ k (by omega)
        rw [← hN0, ← hN, hq] at this
        rw [this]
        exact getD_int (by omega)
      obtain ⟨y, hy⟩ : ∃ y, L.getD k 0 = y := ⟨_, rfl⟩
      rw [hy] at hCq
      have cq : wi.cell? ⟨g, q, none⟩ = some (.int .i64 y) := hRi.pl.at q (by simp [ints, hCq])
      have hlen2 : (L.take k ++ List.replicate ((2 * N) - k) 0).length = (2 * N) := by rw [List.length_append, List.length_take, List.length_replicate]; omega
      obtain ⟨z, hz⟩ : ∃ z, wi.cell? ⟨g2, k, none⟩ = some (.int .i64 z) := ⟨_, hbr.int (by rw [hlen2]; omega)⟩
      have fz := hbr.free k
      have hfs := fill_step (L := L) (k := k) (N := (2 * N)) (by omega) (by omega)
      rw [hy] at hfs
      have HI := Lib.hid (And.intro hbr (And.intro hfr hfs))
      have hp := Lib.hid (fun (W : World) (d0 : W.cell? ⟨b, 0, none⟩ = some (.slice (some ⟨g, 0, none⟩) N N)) (d2 : W.cell? ⟨b, 2, none⟩ = some (.int .i64 f)) => place_any W b g N f k d0 d2 (by omega) (by omega) hlo (by omega))
      rw [hq] at hp
      have k1 : (0 : Int) ≤ (k : Int) := by omega
      have k2 : (k : Int) < (2 * (N : Int)) := by omega
      have q1 : (0 : Int) ≤ (q : Int) := by omega
      have q2 : (q : Int) < (N : Int) := by omega
      clear hbr hfr hfs hRi hq hCq hy hlen2 c1 c3 c4 c8 c9 cf hN hN0
      go_wp2_with fail
      go_region_held3 (fun w' => w'.cell? ⟨b, 0, none⟩ = some (.slice (some ⟨g, 0, none⟩) N N) ∧ w'.cell? ⟨b, 2, none⟩ = some (.int .i64 f) ∧ w'.cell? ⟨g, q, none⟩ = some (.int .i64 y)) (first | exact ⟨c0, c2, cq⟩ | go_keep)
        ((go_at_call 36; refine (hp.out _ (by exact c0) (by exact c2)).mono ?_; rintro e w4 ⟨rfl, mm, rfl⟩))
      go_wp2_with fail
      go_roundw
      case rel =>
        refine ⟨k + 1, by go_num, by omega, ?_, ?_⟩
        · rw [← HI.out.2.2, ← ints_set]
          exact Blk.set (w := _) HI.out.1 k _
        · exact (HI.out.2.1.drewN _).setCell _ _ (.inl (by simp))
      case measure => simp [intOf]; omega
    · obtain rfl : N = k := by omega
      obtain ⟨hN, hN0⟩ := HN.out
      obtain ⟨r1, hb1⟩ := hRi.hd
      have hle1 := hRi.le
      have hpk1 := hRi.pk
      rw [← hN] at hb1
      obtain ⟨Cs2, hCs2⟩ : ∃ Cs2, Cs2 = L ++ List.replicate ((2 * N) - L.length) 0 := ⟨_, rfl⟩
      have hlc : Cs2.length = (2 * N) := by rw [hCs2, List.length_append, List.length_replicate]; omega
      have hbr2 : Blk wi g2 (ints Cs2).toArray 3 := by rw [hCs2, ← hN]; rw [List.take_of_length_le (by omega)] at hbr; exact hbr
      have ho2 : Holds Cs2 0 L := by rw [hCs2]; exact Holds.fresh L 0 ((2 * N)) (by omega) (by omega)
      have c0 := hb1.at 0 rfl
      have c2 := hb1.at 2 (v := .int .i64 f) rfl
      have f0 := hb1.free 0
      have f2 := hb1.free 2
      have hgw : w.heap.size ≤ g2 := by have := HG.out.2.2; omega
      have hb2 := (hb1.set 0 (.slice (some ⟨g2, 0, none⟩) ((2 * N)) ((2 * N)))).set 2 (.int .i64 0)
      have hbr3 := (hbr2.other ⟨b, 0, none⟩ (.slice (some ⟨g2, 0, none⟩) ((2 * N)) ((2 * N))) hbg3).other ⟨b, 2, none⟩ (.int .i64 0) hbg3
      have fr3 : Fr [b, g] w ((wi.setCell ⟨b, 0, none⟩ (.slice (some ⟨g2, 0, none⟩) ((2 * N)) ((2 * N)))).setCell ⟨b, 2, none⟩ (.int .i64 0)) :=
        ((((HG.out.2.1.mono (T := [b, g]) (by simp)).trans hfr (by intro x hx; simp at hx; subst hx; exact .inr hgw)).setCell _ _ (.inl (by simp))).setCell _ _ (.inl (by simp)))
      obtain ⟨fz, hfz⟩ : ∃ fz : Nat, fz = 0 := ⟨_, rfl⟩
      have hRR : RingAt ((wi.setCell ⟨b, 0, none⟩ (.slice (some ⟨g2, 0, none⟩) ((2 * N)) ((2 * N)))).setCell ⟨b, 2, none⟩ (.int .i64 0)) b g2 Cs2 fz L most peak :=
        ⟨⟨r1, by rw [hlc, ← hN, hfz]; exact hb2⟩, hbr3, by rw [hfz]; exact ho2, by rw [hlc]; omega, hm64, hpk1⟩
      have hlen : L.length < Cs2.length := by rw [hlc]; omega
      have HX := Lib.hid (And.intro hRR (And.intro fr3 hlen))
      clear hbr hfr hRi hb1 hbr2 ho2 hb2 hbr3 fr3 hRR hlen hCs2 hlc hN hN0 hfz hle1 hpk1
      go_wp2_with fail
      generalize hwa : World.setCell (World.setCell wi _ _) _ _ = wa
      have HX2 : Hid (RingAt wa b g2 Cs2 fz L most peak ∧ Fr [b, g] w wa ∧ L.length < Cs2.length) := by rw [← hwa]; exact HX
      obtain ⟨hR, fr0, hlen⟩ := HX2.out
      clear hwa HX HX2 c0 c2 f0 f2 HG HR H HN hbg2 hbg3 hgg2 hgg3 hne hnn hw2 hmin ht
      obtain ⟨r, c0, c1, c2, c3, c4, c8, c9, cf⟩ := hR.cells
      obtain ⟨k, hk⟩ : ∃ k, (fz + L.length) % Cs2.length = k := ⟨_, rfl⟩
      have hm := hR.m64
      have hN := hR.le
      have hf := hR.ho.lt
      have hkl : k < Cs2.length := by rw [← hk]; exact Nat.mod_lt _ (by omega)
      obtain ⟨y, hy⟩ : ∃ y, wa.cell? ⟨g2, k, none⟩ = some (.int .i64 y) := ⟨_, hR.pl.int hkl⟩
      have fy := hR.pl.free k
      have hbg := hR.ne
      have hgb : g2 ≠ b := Ne.symm hbg
      have hp := Lib.hid (fun (W : World) (d0 : W.cell? ⟨b, 0, none⟩ = some (.slice (some ⟨g2, 0, none⟩) Cs2.length Cs2.length)) (d2 : W.cell? ⟨b, 2, none⟩ = some (.int .i64 fz)) => place_any W b g2 Cs2.length fz L.length d0 d2 (by omega) (by omega) hf (by omega))
      rw [hk] at hp
      have k1 : (0 : Int) ≤ (k : Int) := by omega
      have k2 : (k : Int) < (Cs2.length : Int) := by omega
      have HK := Lib.hid (And.intro hk hR)
      clear hk c1 c4 c8 c9 cf
      go_region_held3 (fun w' => w'.cell? ⟨b, 0, none⟩ = some (.slice (some ⟨g2, 0, none⟩) Cs2.length Cs2.length) ∧ w'.cell? ⟨b, 2, none⟩ = some (.int .i64 fz) ∧ w'.cell? ⟨b, 3, none⟩ = some (.int .i64 L.length)) (first | exact ⟨c0, c2, c3⟩ | go_keep)
        ((go_at_call 36; refine (hp.out _ (by exact c0) (by exact c2)).mono ?_; rintro e w4 ⟨rfl, mm, rfl⟩))
      simp only [Exit.then]
      generalize hwb : World.setCell _ ⟨g2, k, none⟩ (.int .i64 x) = wb
      obtain ⟨hk, hRR⟩ := HK.out
      obtain ⟨r2, hb0⟩ := hRR.hd
      have hbB : Blk wb b #[.slice (some ⟨g2, 0, none⟩) Cs2.length Cs2.length, .int .i64 most, .int .i64 fz, .int .i64 L.length, .bool false, .int .i64 0, .int .i64 0, .bool false, .int .i64 peak, .int .i64 r2] 87 := by rw [← hwb]; exact Blk.other (w := _) hb0 ⟨g2, k, none⟩ _ hbg
      have hgB : Blk wb g2 (ints (Cs2.set k x)).toArray 3 := by rw [← hwb, ← ints_set]; exact Blk.set (w := _) hRR.pl k _
      have frB : Fr [g2] wa wb := by rw [← hwb]; exact ((Fr.refl [g2] wa).drewN _).setCell ⟨g2, k, none⟩ _ (.inl (by simp))
      have d3 := hbB.at 3 (v := .int .i64 L.length) rfl
      have d4 := hbB.at 4 (v := .bool false) rfl
      have d8 := hbB.at 8 (v := .int .i64 peak) rfl
      have e3 := hbB.free 3
      have e8 := hbB.free 8
      have hse := Lib.hid (sized_int wb b ((L.length : Int) + 1) (L.length + 1) L.length peak (by omega) d3 d4 d8 e3 e8 (by omega))
      have hbC := (hbB.set 3 (.int .i64 (L.length + 1 : Nat))).set 8 (.int .i64 (max peak (L.length + 1) : Nat))
      have hfin : PushPost w b g L most peak x (.returned (.int .i64 0)) ((wb.setCell ⟨b, 3, none⟩ (.int .i64 (L.length + 1 : Nat))).setCell ⟨b, 8, none⟩ (.int .i64 (max peak (L.length + 1) : Nat))) := by
        have hpu := hRR.ho.push hlen x
        rw [hk] at hpu
        have hlk := hRR.ho.le
        have hpk := hRR.pk
        refine ⟨rfl, g2, Cs2.set k x, fz, ⟨⟨r2, ?_⟩, (hgB.other _ _ hgb).other _ _ hgb, hpu, by rw [List.length_set]; exact hN, hm, by rw [List.length_append]; simp; omega⟩, .inr hgw, ?_⟩
        · rw [List.length_set, List.length_append]; exact hbC
        · exact ((fr0.trans frB (by intro x hx; simp at hx; subst hx; exact .inr hgw)).setCell _ _ (.inl (by simp))).setCell _ _ (.inl (by simp))
      have HF := Lib.hid hfin
      clear hwb hk hRR hb0 hbB hgB frB d4 d8 e3 e8 hbC hfin c0 c2 c3 hy fy hbg hgb k1 k2 hp
      go_wp2_with fail
      (with_reducible refine hse.out.mono ?_)
      rintro e w5 ⟨⟨v, rfl⟩, rfl⟩
      go_wp2
      go_ret
      exact HF.out

/-- Push, where there is room for one more. -/
theorem push_any (w : World) (b g : Nat) (Cs : List Int) (f : Nat) (L : List Int) (most peak : Nat) (x : Int) (h : RingAt w b g Cs f L most peak) (hlm : L.length < most) :
    Calls Try.prog 11 #[.pointer (some ⟨b, 0, none⟩), .int .i64 x] w (PushPost w b g L most peak x) := by
  have hle := h.ho.le
  by_cases h1 : L.length < Cs.length
  · exact push_room w b g Cs f L most peak x h h1
  · by_cases h2 : most ≤ 2 * L.length
    · exact push_growA w b g Cs f L most peak x h (by omega) hlm h2
    · exact push_growB w b g Cs f L most peak x h (by omega) hlm (by omega)

end Go.Proofs.Ytehdhdocalbfpaa
