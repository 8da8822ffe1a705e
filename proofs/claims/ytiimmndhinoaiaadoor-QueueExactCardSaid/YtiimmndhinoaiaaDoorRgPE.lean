/-
  A ring of pairs: Cut. Printed by genRp.py.
-/
import Derived.Test.YtiimmndhinoaiaaDoorRgPD
import Derived.Test.YtiimmndhinoaiaaDoorRegT
import Derived.LoopIn
namespace Go.Proofs.YtiimmndhinoaiaaDoor.RgP
open Go.RowKit ring
set_option linter.unusedVariables false
set_option linter.unusedSimpArgs false
attribute [local go_sem] Oper.semAt_some
attribute [local go_sem ↓] Go.wp_at_zero Go.wp_at_succ
attribute [local go_sem ↓] newVar65
attribute [local go_sem] pr_layPr_same can_new run_storePr0 run_newPr run_newPr'
def cutL (L : List Int) (i : Int) : List Int := if 0 ≤ i ∧ i < L.length then L.eraseIdx i.toNat else L
def cutM (M : RM) (len : Nat) (i : Int) : RM := if 0 ≤ i ∧ i < len then M.sized (len - 1) else M
set_option maxRecDepth 100000 in
set_option maxHeartbeats 1000000 in
theorem cut_no (w : World) (b g : Nat) (Cs : List Int) (f : Nat) (L : List Int) (M : RM) (i : Int) (h : RingAt w b g Cs f L M) (hi : ¬ (0 ≤ i ∧ i < L.length)) : Calls Tryd.prog 64 #[.pointer (some ⟨b, 0, none⟩), .int .i64 i] w fun e w' => e = .returned (.tuple #[pval 0, .bool false]) ∧ Fr [] w w' := by
  obtain ⟨z, hz⟩ : ∃ z, z = w.heap.size := ⟨_, rfl⟩
  obtain ⟨w1, hw1⟩ : ∃ w1, w1 = ((w.alloc (.cells (pcells 0).toArray 65)).alloc (.cells (pcells 0).toArray 65)) := ⟨_, rfl⟩
  have hZ1 : Blk w1 z (pcells 0).toArray 65 := by rw [hw1, hz]; exact (Blk.new w (pcells 0).toArray 65).alloc (.cells (pcells 0).toArray 65)
  have hY1 : Blk w1 (z + 1) (pcells 0).toArray 65 := by rw [hw1, hz]; exact Blk.new_at (by simp) _ _
  have f1 : Fr [] w w1 := by rw [hw1]; exact ((Fr.refl [] w).alloc _).alloc _
  have ha := at_no w1 b g Cs f L M i (h.fr f1 (by simp) (by simp)) hi
  have HA := Lib.hid ha
  have HH := Lib.hid (And.intro hZ1 (And.intro hY1 (And.intro f1 (show w.heap.size ≤ z by omega))))
  clear h ha hi hZ1 hY1 f1
  go_enter Tryd.func64, Tryd.ntmps64
  go_upto_region 2 with fail
  simp only [zero_pcells]
  rw [← hw1]
  simp only [← hz]
  clear hw1 hz
  go_wp2_with fail
  (with_reducible refine HA.out.mono ?_)
  rintro e w2 ⟨rfl, f2⟩
  have hZ2 := f2.blk HH.out.1 (by simp)
  have hY2 := f2.blk HH.out.2.1 (by simp)
  obtain ⟨y, hy⟩ : ∃ y, y = w2.heap.size := ⟨_, rfl⟩
  obtain ⟨w3, hw3⟩ : ∃ w3, w3 = layPr (w2.alloc (.cells (pcells 0).toArray 65)) y 0 0 := ⟨_, rfl⟩
  have f3 : Fr [] w2 w3 := by rw [hw3]; exact ((Fr.refl [] w2).alloc _).setPr 0 0 (.inr (by omega))
  have hZ3 := f3.blk hZ2 (by simp)
  have hY3 := f3.blk hY2 (by simp)
  have y1 := hY3.prOne
  have z1 := hZ3.prOneCan
  have HZ := Lib.hid (show pr? (layPr w3 z 0 0) z 0 = some (pval 0) ∧ Fr [] w (layPr w3 z 0 0) from ⟨hZ3.setPrOne.prOne, ((HH.out.2.2.1.trans f2 (by simp)).trans f3 (by simp)).setPr 0 0 (.inr HH.out.2.2.2)⟩)
  clear hZ2 hY2 f2 f3 hZ3 hY3
  go_upto_region 3 with fail
  simp only [zero_pcells, ← hy]
  rw [← hw3]
  clear hw3 hy
  go_wp2
  refine bodyPost_ret (v := .tuple #[pval 0, .bool false]) (results_pt rfl _ _ z 0 _ _ rfl rfl HZ.out.1) rfl ⟨rfl, HZ.out.2⟩
set_option maxRecDepth 100000 in
set_option maxHeartbeats 4000000 in
theorem cut_ok (w : World) (b g : Nat) (Cs : List Int) (f : Nat) (L : List Int) (M : RM) (i : Nat) (x : Int) (h : RingAt w b g Cs f L M) (hx : L[i]? = some x) : Calls Tryd.prog 64 #[.pointer (some ⟨b, 0, none⟩), .int .i64 i] w (PPost w b g (L.eraseIdx i) (M.sized (L.length - 1)) (.tuple #[pval x, .bool true])) := by
  have hi : i < L.length := (List.getElem?_eq_some_iff.1 hx).1
  obtain ⟨z, hz⟩ : ∃ z, z = w.heap.size := ⟨_, rfl⟩
  obtain ⟨w1, hw1⟩ : ∃ w1, w1 = ((w.alloc (.cells (pcells 0).toArray 65)).alloc (.cells (pcells 0).toArray 65)) := ⟨_, rfl⟩
  have hZ1 : Blk w1 z (pcells 0).toArray 65 := by rw [hw1, hz]; exact (Blk.new w (pcells 0).toArray 65).alloc (.cells (pcells 0).toArray 65)
  have hY1 : Blk w1 (z + 1) (pcells 0).toArray 65 := by rw [hw1, hz]; exact Blk.new_at (by simp) _ _
  have f1 : Fr [] w w1 := by rw [hw1]; exact ((Fr.refl [] w).alloc _).alloc _
  have HA := Lib.hid (at_ok w1 b g Cs f L M i x (h.fr f1 (by simp) (by simp)) hx)
  have H := Lib.hid h
  obtain ⟨N, hN⟩ : ∃ N, N = Cs.length := ⟨_, rfl⟩
  have hle := h.ho.le
  have hlo := h.ho.lt
  have hNm := h.le
  have hm64 := h.m64
  have hbg := h.ne
  have hgb := Ne.symm hbg
  have hbw := h.hd.lt
  have hgw := h.pl.lt
  obtain ⟨s, hs⟩ : ∃ s, s = L.length := ⟨_, rfl⟩
  rw [← hs] at hi hle ⊢
  rw [← hN] at hlo hNm hle
  have HE := Lib.hid (And.intro hN (And.intro hs (And.intro hbw (And.intro hgw (show z = w.heap.size from hz)))))
  have HH := Lib.hid (And.intro hZ1 (And.intro hY1 f1))
  have hzg : z ≠ g := by omega
  have hzb : z ≠ b := by omega
  have hyg : z + 1 ≠ g := by omega
  have hyb : z + 1 ≠ b := by omega
  clear h hN hs hx hZ1 hY1 f1 hbw hgw
  go_enter Tryd.func64, Tryd.ntmps64
  go_upto_region 2 with fail
  simp only [zero_pcells]
  rw [← hw1]
  simp only [← hz]
  clear hw1 hz
  go_wp2_with fail
  (with_reducible refine HA.out.mono ?_)
  rintro e w2 ⟨rfl, f2⟩
  obtain ⟨y7, hy⟩ : ∃ y, y = w2.heap.size := ⟨_, rfl⟩
  obtain ⟨w3, hw3⟩ : ∃ w3, w3 = layPr (w2.alloc (.cells (pcells 0).toArray 65)) y7 0 x := ⟨_, rfl⟩
  have f3 : Fr [] w2 w3 := by rw [hw3]; exact ((Fr.refl [] w2).alloc _).setPr 0 x (.inr (by omega))
  have hX3 : Blk w3 y7 (pcells x).toArray 65 := by rw [hw3, hy]; exact (Blk.new w2 (pcells 0).toArray 65).setPrOne
  have hcan : can2 (w2.alloc (.cells (pcells 0).toArray 65)) y7 0 = true := by rw [hy]; exact (Blk.new w2 (pcells 0).toArray 65).prOneCan
  have hZ3 := f3.blk (f2.blk HH.out.1 (by simp)) (by simp)
  have hY3 := f3.blk (f2.blk HH.out.2.1 (by simp)) (by simp)
  have F3 : Fr [] w w3 := (HH.out.2.2.trans f2 (by simp)).trans f3 (by simp)
  have hR3 := H.out.fr F3 (by simp) (by simp)
  have h71 : z + 1 < y7 := by rw [hy]; exact (f2.blk HH.out.2.1 (by simp)).lt
  have hxz : y7 ≠ z := by omega
  have hxg : y7 ≠ g := by have := HE.out; omega
  have hxb : y7 ≠ b := by have := HE.out; omega
  have H3 := Lib.hid (And.intro hX3 (And.intro hZ3 (And.intro hY3 (And.intro F3 hR3))))
  clear f2 f3 hX3 hZ3 hY3 F3 hR3
  go_upto_region 3 with fail
  simp only [zero_pcells, ← hy]
  rw [← hw3]
  clear hw3 hy hcan h71
  go_wp2_with fail
  go_loopw [9] (fun i' wr => ∃ k : Nat, i' = .int .i64 k ∧ i < k ∧ k ≤ s ∧ ∃ Cs', Cs'.length = N ∧ Blk wr b (hdr g N f s M) 103 ∧ Blk wr g (pls Cs').toArray 65 ∧ Holds Cs' f (shl L i k) ∧ Fr [g] w3 wr) (fun i' _ => s - (intOf i').toNat)
  case atStart => exact ⟨i + 1, by go_num, by omega, by omega, Cs, HE.out.1.symm, by rw [HE.out.1, HE.out.2.1]; exact H3.out.2.2.2.2.hd, H3.out.2.2.2.2.pl, by rw [shl_start]; exact H.out.ho, Fr.refl _ _⟩
  case round =>
    obtain ⟨k, rfl, hik, hk, Cs', hlc, hb, hbr, hho, hfr⟩ := hrel
    obtain ⟨wi, rfl⟩ : ∃ wi : World, wi = wr := ⟨_, rfl⟩
    have hsl : (shl L i k).length = s := by have := HE.out.2.1; rw [shl_len L i k (by omega) (by omega), this]
    have c0 := hb.at 0 (v := .slice (some ⟨g, 0, none⟩) N N) rfl
    have c2 := hb.at 2 (v := .int .i64 f) rfl
    have c3 := hb.at 3 (v := .int .i64 s) rfl
    have HI := Lib.hid (And.intro hlc (And.intro hb (And.intro hbr (And.intro hho (And.intro hfr hsl)))))
    by_cases hlt : k < s
    · obtain ⟨y, hy⟩ : ∃ y, L[k]? = some y := ⟨_, List.getElem?_eq_getElem (by have := HE.out.2.1; omega)⟩
      obtain ⟨qa, hq⟩ : ∃ qa, (f + k) % N = qa := ⟨_, rfl⟩
      obtain ⟨qb, hq'⟩ : ∃ qb, (f + (k - 1)) % N = qb := ⟨_, rfl⟩
      have hqN : qa < N := by rw [← hq]; exact Nat.mod_lt _ (by omega)
      have hqN' : qb < N := by rw [← hq']; exact Nat.mod_lt _ (by omega)
      have hCq : Cs'[qa]? = some y := by
        have := hho.at_ k (by omega)
        rw [hlc, hq, shl_get L i k hik (by have := HE.out.2.1; omega), hy] at this
        exact this
      have cq := hbr.prAt hCq
      have hqb2 : qb < Cs'.length := by omega
      have hcan := hbr.prCan hqb2
      have hnext : Holds (Cs'.set qb y) f (shl L i (k + 1)) := by
        have := hho.set (k - 1) (by omega) y
        rw [hlc, hq', shl_step L i k hik (by have := HE.out.2.1; omega) hy] at this
        exact this
      have HN2 := Lib.hid (And.intro hnext hqb2)
      have hp := Lib.hid (fun (W : World) (d0 : W.cell? ⟨b, 0, none⟩ = some (.slice (some ⟨g, 0, none⟩) N N)) (d2 : W.cell? ⟨b, 2, none⟩ = some (.int .i64 f)) => place_any W b g N f k d0 d2 (by omega) (by omega) hlo (by omega))
      have hp' := Lib.hid (fun (W : World) (d0 : W.cell? ⟨b, 0, none⟩ = some (.slice (some ⟨g, 0, none⟩) N N)) (d2 : W.cell? ⟨b, 2, none⟩ = some (.int .i64 f)) => place_int W b g N f ((k : Int) - 1) (k - 1) (by omega) d0 d2 (by omega) (by omega) hlo (by omega))
      rw [hq] at hp
      rw [hq'] at hp'
      have k0 : (0 : Int) ≤ (k : Int) := by omega
      have k9 : (k : Int) ≤ 65536 := by omega
      have hwk : IntKind.i64.wrap ((k : Int) - 1) = (k : Int) - 1 := by rw [IntKind.wrap_i64]; omega
      have q1 : (0 : Int) ≤ (qa : Int) := by omega
      have q2 : (qa : Int) < (N : Int) := by omega
      have q1' : (0 : Int) ≤ (qb : Int) := by omega
      have q2' : (qb : Int) < (N : Int) := by omega
      clear hlc hb hbr hho hfr hsl hy hq hq' hnext
      go_wp2_with fail
      refine region_tail (by kernel_rfl) (by kernel_rfl) [[], [0], [0, 1], [0, 1, 2], [], [], [5], [4, 5, 6], [], [8], [8, 9], [8, 9, 10], [], [], [4, 5, 6, 7, 12, 13], [4, 5, 6, 7, 8, 9, 10, 11, 12, 13, 14], [4, 5, 6, 7, 8, 9, 10, 11, 12, 13, 14, 15], [0, 1, 2, 3, 4, 5, 6, 7, 8, 9, 10, 11, 12, 13, 14, 15, 16], [0, 1, 2, 3, 4, 5, 6, 7, 8, 9, 10, 11, 12, 13, 14, 15, 16, 17]] (by kernel_rfl) 18 (by decide) (by kernel_rfl) [.is (.pointer (some ⟨b, 0, none⟩)), .is (.pointer (some ⟨b, 0, none⟩)), .is (.pointer (some ⟨b, 0, none⟩)), .is (.slice (some ⟨g, 0, none⟩) N N), .is (.pointer (some ⟨b, 0, none⟩)), .is (.int .i64 (k : Nat)), .is (.int .i64 ((k : Int) - 1)), .is (.int .i64 (qb : Nat)), .is (.pointer (some ⟨b, 0, none⟩)), .is (.pointer (some ⟨b, 0, none⟩)), .is (.pointer (some ⟨b, 0, none⟩)), .is (.slice (some ⟨g, 0, none⟩) N N), .is (.pointer (some ⟨b, 0, none⟩)), .is (.int .i64 (k : Nat)), .is (.int .i64 (qa : Nat)), .is (.pointer (some ⟨g, qa * 2, none⟩)), .is (pval y), .is (.pointer (some ⟨g, qb * 2, none⟩))] 68 rfl (by kernel_rfl) ?_ ?_
      · intro q a1 W1 i hi hnq hd hG K hK
        have hlt : i < 18 := hi
        have hc : i = 0 ∨ i = 1 ∨ i = 2 ∨ i = 3 ∨ i = 4 ∨ i = 5 ∨ i = 6 ∨ i = 7 ∨ i = 8 ∨ i = 9 ∨ i = 10 ∨ i = 11 ∨ i = 12 ∨ i = 13 ∨ i = 14 ∨ i = 15 ∨ i = 16 ∨ i = 17 := by omega
        rcases hc with rfl | rfl | rfl | rfl | rfl | rfl | rfl | rfl | rfl | rfl | rfl | rfl | rfl | rfl | rfl | rfl | rfl | rfl
        · have e0 := hG.old 0 (by kernel_rfl)
          refine op_do rfl (wanted_none rfl) hK (fun K' hK' => ?_)
          unfold Oper.wp
          go_simp
          exact hK' _ _ (Fr.refl _ _) rfl
        · have e29 := hG.val (v := .pointer (some ⟨b, 0, none⟩)) 0 29 (hd _ rfl ⟨0, .data⟩ (by simp) rfl) rfl rfl
          refine op_do rfl (wanted_none rfl) hK (fun K' hK' => ?_)
          unfold Oper.wp
          go_simp
          exact hK' _ _ (Fr.refl _ _) rfl
        · have e30 := hG.val (v := .pointer (some ⟨b, 0, none⟩)) 1 30 (hd _ rfl ⟨1, .data⟩ (by simp) rfl) rfl rfl
          refine op_do rfl (wanted_none rfl) hK (fun K' hK' => ?_)
          unfold Oper.wp
          go_simp
          exact hK' _ _ (Fr.refl _ _) rfl
        · have e31 := hG.val (v := .pointer (some ⟨b, 0, none⟩)) 2 31 (hd _ rfl ⟨2, .data⟩ (by simp) rfl) rfl rfl
          have x0 := (hG.grown.cell (World.block_lt_of_cell? wi _ c0) (by simp)).trans c0
          refine op_do rfl (wanted_none rfl) hK (fun K' hK' => ?_)
          unfold Oper.wp
          go_simp
          exact hK' _ _ (Fr.refl _ _) rfl
        · have e0 := hG.old 0 (by kernel_rfl)
          refine op_do rfl (wanted_none rfl) hK (fun K' hK' => ?_)
          unfold Oper.wp
          go_simp
          exact hK' _ _ (Fr.refl _ _) rfl
        · have e9 := hG.old 9 (by kernel_rfl)
          refine op_do rfl (wanted_none rfl) hK (fun K' hK' => ?_)
          unfold Oper.wp
          go_simp
          exact hK' _ _ (Fr.refl _ _) rfl
        · have e34 := hG.val (v := .int .i64 (k : Nat)) 5 34 (hd _ rfl ⟨5, .data⟩ (by simp) rfl) rfl rfl
          refine op_do rfl (wanted_none rfl) hK (fun K' hK' => ?_)
          unfold Oper.wp
          go_simp
          exact hK' _ _ (Fr.refl _ _) rfl
        · have e33 := hG.val (v := .pointer (some ⟨b, 0, none⟩)) 4 33 (hd _ rfl ⟨4, .data⟩ (by simp) rfl) rfl rfl
          have e35 := hG.val (v := .int .i64 ((k : Int) - 1)) 6 35 (hd _ rfl ⟨6, .data⟩ (by simp) rfl) rfl rfl
          have x0 := (hG.grown.cell (World.block_lt_of_cell? wi _ c0) (by simp)).trans c0
          have x2 := (hG.grown.cell (World.block_lt_of_cell? wi _ c2) (by simp)).trans c2
          refine op_do rfl (wanted_none rfl) hK (fun K' hK' => ?_)
          unfold Oper.wp
          go_simp
          refine (hp'.out W1 x0 x2).mono ?_
          rintro e W2 ⟨rfl, mm, rfl⟩
          exact hK' _ _ ((Fr.refl _ _).drewN _) rfl
        · have e0 := hG.old 0 (by kernel_rfl)
          refine op_do rfl (wanted_none rfl) hK (fun K' hK' => ?_)
          unfold Oper.wp
          go_simp
          exact hK' _ _ (Fr.refl _ _) rfl
        · have e37 := hG.val (v := .pointer (some ⟨b, 0, none⟩)) 8 37 (hd _ rfl ⟨8, .data⟩ (by simp) rfl) rfl rfl
          refine op_do rfl (wanted_none rfl) hK (fun K' hK' => ?_)
          unfold Oper.wp
          go_simp
          exact hK' _ _ (Fr.refl _ _) rfl
        · have e38 := hG.val (v := .pointer (some ⟨b, 0, none⟩)) 9 38 (hd _ rfl ⟨9, .data⟩ (by simp) rfl) rfl rfl
          refine op_do rfl (wanted_none rfl) hK (fun K' hK' => ?_)
          unfold Oper.wp
          go_simp
          exact hK' _ _ (Fr.refl _ _) rfl
        · have e39 := hG.val (v := .pointer (some ⟨b, 0, none⟩)) 10 39 (hd _ rfl ⟨10, .data⟩ (by simp) rfl) rfl rfl
          have x0 := (hG.grown.cell (World.block_lt_of_cell? wi _ c0) (by simp)).trans c0
          refine op_do rfl (wanted_none rfl) hK (fun K' hK' => ?_)
          unfold Oper.wp
          go_simp
          exact hK' _ _ (Fr.refl _ _) rfl
        · have e0 := hG.old 0 (by kernel_rfl)
          refine op_do rfl (wanted_none rfl) hK (fun K' hK' => ?_)
          unfold Oper.wp
          go_simp
          exact hK' _ _ (Fr.refl _ _) rfl
        · have e9 := hG.old 9 (by kernel_rfl)
          refine op_do rfl (wanted_none rfl) hK (fun K' hK' => ?_)
          unfold Oper.wp
          go_simp
          exact hK' _ _ (Fr.refl _ _) rfl
        · have e41 := hG.val (v := .pointer (some ⟨b, 0, none⟩)) 12 41 (hd _ rfl ⟨12, .data⟩ (by simp) rfl) rfl rfl
          have e42 := hG.val (v := .int .i64 (k : Nat)) 13 42 (hd _ rfl ⟨13, .data⟩ (by simp) rfl) rfl rfl
          have x0 := (hG.grown.cell (World.block_lt_of_cell? wi _ c0) (by simp)).trans c0
          have x2 := (hG.grown.cell (World.block_lt_of_cell? wi _ c2) (by simp)).trans c2
          refine op_do rfl (wanted_none rfl) hK (fun K' hK' => ?_)
          unfold Oper.wp
          go_simp
          refine (hp.out W1 x0 x2).mono ?_
          rintro e W2 ⟨rfl, mm, rfl⟩
          exact hK' _ _ ((Fr.refl _ _).drewN _) rfl
        · have e40 := hG.val (v := .slice (some ⟨g, 0, none⟩) N N) 11 40 (hd _ rfl ⟨11, .data⟩ (by simp) rfl) rfl rfl
          have e43 := hG.val (v := .int .i64 (qa : Nat)) 14 43 (hd _ rfl ⟨14, .data⟩ (by simp) rfl) rfl rfl
          refine op_do rfl (wanted_none rfl) hK (fun K' hK' => ?_)
          unfold Oper.wp
          go_simp
          exact hK' _ _ (Fr.refl _ _) rfl
        · have e44 := hG.val (v := .pointer (some ⟨g, qa * 2, none⟩)) 15 44 (hd _ rfl ⟨15, .data⟩ (by simp) rfl) rfl rfl
          have xq := (hG.grown.blk HI.out.2.2.1 (by simp)).prAt hCq
          refine op_do rfl (wanted_none rfl) hK (fun K' hK' => ?_)
          unfold Oper.wp
          go_simp
          exact hK' _ _ (Fr.refl _ _) rfl
        · have e32 := hG.val (v := .slice (some ⟨g, 0, none⟩) N N) 3 32 (hd _ rfl ⟨3, .data⟩ (by simp) rfl) rfl rfl
          have e36 := hG.val (v := .int .i64 (qb : Nat)) 7 36 (hd _ rfl ⟨7, .data⟩ (by simp) rfl) rfl rfl
          refine op_do rfl (wanted_none rfl) hK (fun K' hK' => ?_)
          unfold Oper.wp
          go_simp
          exact hK' _ _ (Fr.refl _ _) rfl
      · intro q a1 W1 hq hG
        have f1 := hG.grown
        obtain ⟨vs, hv, rfl⟩ := hG.front 68 rfl (by kernel_rfl) (by decide) hq [(0, 29), (1, 30), (2, 31), (3, 32), (4, 33), (5, 34), (6, 35), (7, 36), (8, 37), (9, 38), (10, 39), (11, 40), (12, 41), (13, 42), (14, 43), (15, 44), (16, 45), (17, 46)] (by kernel_rfl)
        clear hG hq
        have r0 : vs 0 = .pointer (some ⟨b, 0, none⟩) := hv 0 29 (by decide) rfl
        have r1 : vs 1 = .pointer (some ⟨b, 0, none⟩) := hv 1 30 (by decide) rfl
        have r2 : vs 2 = .pointer (some ⟨b, 0, none⟩) := hv 2 31 (by decide) rfl
        have r3 : vs 3 = .slice (some ⟨g, 0, none⟩) N N := hv 3 32 (by decide) rfl
        have r4 : vs 4 = .pointer (some ⟨b, 0, none⟩) := hv 4 33 (by decide) rfl
        have r5 : vs 5 = .int .i64 (k : Nat) := hv 5 34 (by decide) rfl
        have r6 : vs 6 = .int .i64 ((k : Int) - 1) := hv 6 35 (by decide) rfl
        have r7 : vs 7 = .int .i64 (qb : Nat) := hv 7 36 (by decide) rfl
        have r8 : vs 8 = .pointer (some ⟨b, 0, none⟩) := hv 8 37 (by decide) rfl
        have r9 : vs 9 = .pointer (some ⟨b, 0, none⟩) := hv 9 38 (by decide) rfl
        have r10 : vs 10 = .pointer (some ⟨b, 0, none⟩) := hv 10 39 (by decide) rfl
        have r11 : vs 11 = .slice (some ⟨g, 0, none⟩) N N := hv 11 40 (by decide) rfl
        have r12 : vs 12 = .pointer (some ⟨b, 0, none⟩) := hv 12 41 (by decide) rfl
        have r13 : vs 13 = .int .i64 (k : Nat) := hv 13 42 (by decide) rfl
        have r14 : vs 14 = .int .i64 (qa : Nat) := hv 14 43 (by decide) rfl
        have r15 : vs 15 = .pointer (some ⟨g, qa * 2, none⟩) := hv 15 44 (by decide) rfl
        have r16 : vs 16 = pval y := hv 16 45 (by decide) rfl
        have r17 : vs 17 = .pointer (some ⟨g, qb * 2, none⟩) := hv 17 46 (by decide) rfl
        simp only [List.drop_succ_cons, List.drop_zero, lay, List.foldl_cons, List.foldl_nil, r0, r1, r2, r3, r4, r5, r6, r7, r8, r9, r10, r11, r12, r13, r14, r15, r16, r17]
        simp only [List.setIfInBounds_toArray, List.set_cons_zero, List.set_cons_succ]
        clear hv r0 r1 r2 r3 r4 r5 r6 r7 r8 r9 r10 r11 r12 r13 r14 r15 r16 r17
        clear vs
        have y0 := (f1.blk HI.out.2.2.1 (by simp)).prCan HN2.out.2
        have HF1 := Lib.hid f1
        clear f1
        go_wp2_with fail
        go_roundw
        case rel =>
          refine ⟨k + 1, by go_num, by omega, by omega, Cs'.set qb y, by rw [List.length_set]; exact HI.out.1, Blk.otherPr (HF1.out.blk HI.out.2.1 (by simp)) _ _ hbg, Blk.setPr (HF1.out.blk HI.out.2.2.1 (by simp)) HN2.out.2 y, HN2.out.1, (HI.out.2.2.2.2.1.trans HF1.out (by simp)).setPr _ _ (.inl (by simp))⟩
        case measure => simp [intOf]; omega
    · obtain rfl : s = k := by omega
      obtain ⟨hN, hs, -⟩ := HE.out
      obtain ⟨y, hy⟩ := shl_end L i (by omega)
      rw [← hs] at hy
      have hel : (L.eraseIdx i).length = s - 1 := by rw [List.length_eraseIdx_of_lt (by omega)]; omega
      obtain ⟨qa, hq⟩ : ∃ qa, (f + (s - 1)) % N = qa := ⟨_, rfl⟩
      have hqN : qa < N := by rw [← hq]; exact Nat.mod_lt _ (by omega)
      have hqa2 : qa < Cs'.length := by omega
      have hcan := hbr.prCan hqa2
      have hlast : Holds (Cs'.set qa 0) f (L.eraseIdx i) := by
        rw [hy] at hho
        have := hho.last 0
        rw [hel, hlc, hq] at this
        exact this
      have hp := Lib.hid (fun (W : World) (d0 : W.cell? ⟨b, 0, none⟩ = some (.slice (some ⟨g, 0, none⟩) N N)) (d2 : W.cell? ⟨b, 2, none⟩ = some (.int .i64 f)) => place_int W b g N f ((s : Int) - 1) (s - 1) (by omega) d0 d2 (by omega) (by omega) hlo (by omega))
      rw [hq] at hp
      have hyi := (hfr.blk H3.out.2.2.1 (by simpa using hyg)).prOne
      have HZ := Lib.hid (And.intro hlast (And.intro hel (And.intro hN (And.intro hs hqa2))))
      have k0 : (0 : Int) ≤ (s : Int) := by omega
      have k9 : (s : Int) ≤ 65536 := by omega
      have hwk : IntKind.i64.wrap ((s : Int) - 1) = (s : Int) - 1 := by rw [IntKind.wrap_i64]; omega
      have q1 : (0 : Int) ≤ (qa : Int) := by omega
      have q2 : (qa : Int) < (N : Int) := by omega
      clear hlc hb hbr hho hfr hsl hy hq hlast hel hN hs
      go_wp2_with fail
      go_region_held3 (fun w' => w'.cell? ⟨b, 0, none⟩ = some (.slice (some ⟨g, 0, none⟩) N N) ∧ w'.cell? ⟨b, 2, none⟩ = some (.int .i64 f) ∧ w'.cell? ⟨b, 3, none⟩ = some (.int .i64 s) ∧ pr? w' (z + 1) 0 = some (pval 0)) ((try simp only [World.cell?_drew, World.cell?_drewN, pr_drew, pr_drewN, cell_layPr' _ _ _ _ _ _ hbg, pr_layPr _ _ _ _ _ _ hyg]; exact ⟨c0, c2, c3, hyi⟩))
        ((go_at_call 97; refine (hp.out _ (by exact c0) (by exact c2)).mono ?_; rintro e w4 ⟨rfl, mm, rfl⟩))
      simp only [Exit.then]
      generalize hwb : layPr _ g (qa * 2) 0 = wb
      have hbB : Blk wb b (hdr g N f s M) 103 := by rw [← hwb]; exact Blk.otherPr (W := _) HI.out.2.1 (qa * 2) 0 hbg
      have hgB : Blk wb g (pls (Cs'.set qa 0)).toArray 65 := by rw [← hwb]; exact Blk.setPr (W := _) HI.out.2.2.1 HZ.out.2.2.2.2 0
      have frB : Fr [g] w3 wb := by rw [← hwb]; exact (HI.out.2.2.2.2.1.drewN _).setPr (qa * 2) 0 (.inl (by simp))
      have d3 := hbB.at 3 (v := .int .i64 s) rfl
      have hse := Lib.hid (sized_any wb b g N f s M ((s : Int) - 1) (s - 1) (by omega) hbB (by omega))
      have hfin : ∀ w', Blk w' b (hdr g N f (s - 1) (M.sized (s - 1))) 103 → Fr [b] wb w' → (pr? w' y7 0 = some (pval x) ∧ can2 w' z 0 = true) ∧ pr? (layPr w' z 0 x) z 0 = some (pval x) ∧ PPost w b g (L.eraseIdx i) (M.sized (s - 1)) (.tuple #[pval x, .bool true]) (.returned (.tuple #[pval x, .bool true])) (layPr w' z 0 x) := by
        intro w' hb' f'
        have hz9 := f'.blk (frB.blk H3.out.2.1 (by simpa using hzg)) (by simpa using hzb)
        have hx9 := f'.blk (frB.blk H3.out.1 (by simpa using hxg)) (by simpa using hxb)
        have fz : Fr [z] w' (layPr w' z 0 x) := (Fr.refl _ _).setPr 0 x (.inl (by simp))
        refine ⟨⟨hx9.prOne, hz9.prOneCan⟩, hz9.setPrOne.prOne, rfl, g, Cs'.set qa 0, f, ⟨?_, fz.blk (f'.blk hgB (by simpa using hgb)) (by simpa using Ne.symm hzg), HZ.out.1, by rw [List.length_set, HI.out.1]; exact hNm, hm64⟩, .inl rfl, ?_⟩
        · rw [List.length_set, HI.out.1, HZ.out.2.1]
          exact fz.blk hb' (by simpa using Ne.symm hzb)
        · exact (((H3.out.2.2.2.1.mono (T := [b, g]) (by simp)).trans (frB.mono (T := [b, g]) (by simp)) (fun u hu => .inl hu)).trans f' (by simp)).trans fz (fun u hu => by simp at hu; subst hu; exact .inr (by have := HE.out.2.2.2.2; omega))
      have HF := Lib.hid hfin
      clear hwb hbB hgB frB hfin c0 c2 c3 hp HI hcan hyi
      go_wp2_with fail
      (with_reducible refine hse.out.mono ?_)
      rintro e w5 ⟨⟨v, rfl⟩, hb5, f5⟩
      obtain ⟨⟨x5, z5⟩, r5, p5⟩ := HF.out _ hb5 f5
      have HF5 := Lib.hid (And.intro r5 p5)
      clear hb5 f5 r5 p5
      go_wp2
      refine bodyPost_ret (v := .tuple #[pval x, .bool true]) (results_pt rfl _ _ z 0 _ _ rfl rfl HF5.out.1) rfl HF5.out.2
theorem cut_any (w : World) (b g : Nat) (Cs : List Int) (f : Nat) (L : List Int) (M : RM) (i : Int) (h : RingAt w b g Cs f L M) : Calls Tryd.prog 64 #[.pointer (some ⟨b, 0, none⟩), .int .i64 i] w (PPost w b g (cutL L i) (cutM M L.length i) (atRes L i)) := by
  by_cases hi : 0 ≤ i ∧ i < L.length
  · obtain ⟨j, rfl⟩ : ∃ j : Nat, i = j := ⟨i.toNat, by omega⟩
    unfold cutL cutM atRes
    rw [if_pos hi, if_pos hi, if_pos hi, Int.toNat_natCast]
    exact cut_ok w b g Cs f L M j _ h (by have hj : j < L.length := by omega
                                          simp [List.getD_eq_getElem?_getD, hj])
  · unfold cutL cutM atRes
    rw [if_neg hi, if_neg hi, if_neg hi]
    refine (cut_no w b g Cs f L M i h hi).mono ?_
    rintro e w' ⟨rfl, f'⟩
    exact ⟨rfl, g, Cs, f, h.fr f' (by simp) (by simp), .inl rfl, f'.mono (by simp)⟩

end Go.Proofs.YtiimmndhinoaiaaDoor.RgP
