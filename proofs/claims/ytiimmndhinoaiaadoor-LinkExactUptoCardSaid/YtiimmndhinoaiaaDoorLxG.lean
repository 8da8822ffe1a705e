/-
  LinkExact: the list that was handed in; where there is no line. Printed by genLxG.py.
-/
import Derived.Test.YtiimmndhinoaiaaDoorLxF
namespace Go.Proofs.YtiimmndhinoaiaaDoor
open Go.RowKit Go.Shelf
set_option linter.unusedVariables false
set_option linter.unusedSimpArgs false
attribute [local go_sem] Oper.semAt_some
theorem own_setS {w : World} {g n cap j : Nat} {xs : List Value} (h : w.ownsRow 0 9 1 (.slice (some ⟨g, 0, none⟩) n cap) n xs) (u : Value) : (w.setCell ⟨g, j, none⟩ u).ownsRow 0 9 1 (.slice (some ⟨g, 0, none⟩) n cap) n (xs.set j u) := by
  obtain ⟨h1, h2⟩ := h
  rcases h2 with ⟨h2, _⟩ | ⟨g', cap', cur, h2, hb, hg, h3, h4, h5, h6⟩
  · cases h2
  · cases h2
    refine ⟨by rw [List.length_set]; exact h1, .inr ⟨g, cap, _, rfl, hb, Blk.set (w := w) (show Blk w g cur 9 from hg) j _, h3, h4, by simpa using h5, ?_⟩⟩
    rw [Array.toList_setIfInBounds, List.take_set, Nat.mul_one] at *
    rw [h6]
/-- The first j texts are written over. -/
def overB : ByteArray := ⟨#[111, 118, 101, 114]⟩
def ovr (L : List Int) : Nat → List Value
  | 0 => strs (L.map txt)
  | j + 1 => (ovr L j).set j (.string overB)
theorem ovr_len (L : List Int) : ∀ j, (ovr L j).length = L.length
  | 0 => by simp [ovr, strs]
  | j + 1 => by rw [ovr, List.length_set]; exact ovr_len L j
theorem ovr_at (L : List Int) (i : Nat) (hi : i < L.length) : ∀ j, j ≤ i → (ovr L j)[i]? = some (.string (txt L[i]))
  | 0, _ => by simp [ovr, strs, hi]
  | j + 1, h => by rw [ovr, List.getElem?_set_ne (by omega)]; exact ovr_at L i hi j (by omega)
set_option maxRecDepth 100000 in
set_option maxHeartbeats 4000000 in
theorem exact_no (w : World) (most : Int) (pb sp : Value) (L : List Int) (hb : RdF w pb L.length 1 (ints L)) (hl : L.length ≤ 1048576) (hi : ∀ x ∈ L, I64 x) (hT : TB w) (hm : most < 1 ∨ 64 < most) :
    Calls Tryd.prog 3 #[.int .i64 most, pb, sp] w fun e w' => e = .returned (.bool true) ∧ Fr [] w w' := by
  obtain ⟨p, c, rfl, -, -⟩ := hb.form
  obtain ⟨n, hn⟩ : ∃ n, n = L.length := ⟨_, rfl⟩
  have H1 := Lib.hid (texts_any w _ L hb hi hl hT)
  have HN := Lib.hid (And.intro hn (And.intro hb (And.intro hi hT)))
  have H2 := Lib.hid (fun W pv hp => from_arg W most pv hp hm)
  have H3 := Lib.hid (fun W pv hp => rfrom_arg W most pv hp hm)
  have H4 := Lib.hid (fun W => LnS.new_no W most hm)
  have H5 := Lib.hid (fun W => rnew_no W most hm)
  have H6 := Lib.hid works_any
  rw [← hn] at H1 hl ⊢
  clear hb hi hT hm hn
  go_enter Tryd.func3, Tryd.ntmps3
  go_wp2_with fail
  (with_reducible refine H1.out.mono ?_)
  rintro e W0 ⟨vt, rfl, ho, f0, hg⟩
  rw [← HN.out.1] at ho
  obtain ⟨pt, ct, rfl⟩ := own_form ho
  have HG0 := Lib.hid (And.intro ho (And.intro f0 hg))
  clear ho f0 hg
  go_wp2_with (first | (go_at_call 6; refine (H2.out _ _ ⟨_, _, _, rfl⟩).mono ?_; rintro e w1 ⟨rfl, rfl⟩) | (go_at_call 7; refine (H3.out _ _ ⟨_, _, _, rfl⟩).mono ?_; rintro e w1 ⟨rfl, rfl⟩) | (go_at_call 8; refine (H4.out _).mono ?_; rintro e w1 ⟨rfl, rfl⟩) | (go_at_call 10; refine (H5.out _).mono ?_; rintro e w1 ⟨rfl, rfl⟩) | (go_at_call 9; refine (H6.out _).mono ?_; rintro e w1 ⟨rfl, f1⟩; have HF := Lib.hid f1; clear f1))
  have HG := Lib.hid (show _ ∧ Fr [] w _ ∧ _ from ⟨own_fr HG0.out.1 HF.out (by simp), HG0.out.2.1.trans HF.out (by simp), HG0.out.2.2⟩)
  clear HG0 HF
  go_loopw [14] (fun i wr => ∃ j : Nat, i = .int .i64 j ∧ j ≤ n ∧ wr.ownsRow 0 9 1 (.slice pt n ct) n (ovr L j) ∧ Fr (Value.slice pt n ct).ownBlock.toList w1 wr) (fun i _ => n - (intOf i).toNat)
  case atStart => exact ⟨0, rfl, Nat.zero_le _, HG.out.1, Fr.refl _ _⟩
  case round =>
    obtain ⟨j, rfl, hj, hA, hfr⟩ := hrel
    obtain ⟨wi, hwi⟩ : ∃ wi : World, wi = wr := ⟨_, rfl⟩
    rw [← hwi] at hA hfr ⊢
    clear hwi
    by_cases hlt : j < n
    · have hjl : j < L.length := by have := HN.out.1; omega
      obtain ⟨x, hx⟩ : ∃ x, L[j] = x := ⟨_, rfl⟩
      have hcx := ovr_at L j hjl j (Nat.le_refl _)
      rw [hx] at hcx
      obtain ⟨gt, rfl⟩ : ∃ gt, pt = some ⟨gt, 0, none⟩ := by
        rcases hA.2 with ⟨_, h9⟩ | ⟨g, cap, cur, h9, _⟩
        · omega
        · cases h9; exact ⟨g, rfl⟩
      have c1 := hA.cells (g := gt) rfl j _ hcx
      rw [Addr.add_lit, Nat.zero_add] at c1
      have cfz : wi.frozen? ⟨gt, j, none⟩ = false := by
        rcases hA.2 with ⟨h2, _⟩ | ⟨g', cap', cur, h2, hb, hg, _⟩
        · cases h2
        · cases h2; exact Blk.free (w := wi) (show Blk wi gt cur 9 from hg) j
      obtain ⟨g, o, cap', he, _, _, hcell⟩ := HN.out.2.1.pos (by omega)
      rw [← HN.out.1] at he
      cases he
      have z0 := hcell j (.int .i64 x) (by simp [ints, hjl, hx])
      have hgt : w.heap.size ≤ gt := HG.out.2.2 gt rfl
      have z1 := HG.out.2.1.cell (World.block_lt_of_cell? w _ z0) (by simp) |>.trans z0
      have hglt := World.block_lt_of_cell? w _ z0
      have z2 := (hfr.cell (World.block_lt_of_cell? w1 _ z1) (by simp [Value.ownBlock]; simp at hglt; omega)).trans z1
      have hT : TB wi := (HN.out.2.2.2.fr HG.out.2.1 (by simp)).fr hfr (by have := HN.out.2.2.2.lt; simp [Value.ownBlock]; omega)
      have hxi := HN.out.2.2.1 x (by rw [← hx]; exact List.getElem_mem hjl)
      have HTX2 := Lib.hid (fun W (f : Fr [] wi W) => text_any W x hxi (hT.fr f (by simp)))
      have HA := Lib.hid (And.intro hA hfr)
      have j0 : (0 : Int) ≤ (j : Int) := by omega
      have j1 : (j : Int) < (n : Int) := by omega
      obtain ⟨s, hs⟩ : ∃ s, s = txt x := ⟨_, rfl⟩
      rw [← hs] at HTX2 c1
      have HC := Lib.hid (And.intro c1 (And.intro cfz z2))
      clear c1 cfz z2
      clear hA hfr hcx hcell z0 z1 hglt hT hjl hx hs hgt hxi
      go_wp2_with fail
      refine region_grow (by kernel_rfl) (by kernel_rfl) [.is (.slice (some ⟨gt, 0, none⟩) n ct), .is (.int .i64 (j : Nat)), .is (.pointer (some ⟨gt, j, none⟩)), .is (.string s), .is (.slice (some ⟨g, o, none⟩) n c), .is (.int .i64 (j : Nat)), .is (.pointer (some ⟨g, o + j, none⟩)), .is (.int .i64 x), .is (.string s), .is (.bool false)] 158 rfl (by kernel_rfl) [(0, 80), (1, 81), (2, 82), (3, 83), (4, 84), (5, 85), (6, 86), (7, 87), (8, 88), (9, 89)] (by kernel_rfl) ?_ ?_
      · intro q a1 W1 i hi hnq hd hG K hK
        have hlt : i < 10 := hi
        have hc : i = 0 ∨ i = 1 ∨ i = 2 ∨ i = 3 ∨ i = 4 ∨ i = 5 ∨ i = 6 ∨ i = 7 ∨ i = 8 ∨ i = 9 := by omega
        rcases hc with rfl | rfl | rfl | rfl | rfl | rfl | rfl | rfl | rfl | rfl
        · have e7 := hG.old 7 (by kernel_rfl)
          refine op_do rfl (wanted_none rfl) hK (fun K' hK' => ?_)
          unfold Oper.wp
          go_simp
          exact hK' _ _ (Fr.refl _ _) rfl
        · have e14 := hG.old 14 (by kernel_rfl)
          refine op_do rfl (wanted_none rfl) hK (fun K' hK' => ?_)
          unfold Oper.wp
          go_simp
          exact hK' _ _ (Fr.refl _ _) rfl
        · have e80 := hG.val (v := .slice (some ⟨gt, 0, none⟩) n ct) 0 80 (hd _ rfl ⟨0, .data⟩ (by simp) rfl) rfl rfl
          have e81 := hG.val (v := .int .i64 (j : Nat)) 1 81 (hd _ rfl ⟨1, .data⟩ (by simp) rfl) rfl rfl
          refine op_do rfl (wanted_none rfl) hK (fun K' hK' => ?_)
          unfold Oper.wp
          go_simp
          exact hK' _ _ (Fr.refl _ _) rfl
        · have e82 := hG.val (v := .pointer (some ⟨gt, j, none⟩)) 2 82 (hd _ rfl ⟨2, .data⟩ (by simp) rfl) rfl rfl
          have cx := (hG.grown.cell (World.block_lt_of_cell? wi _ HC.out.1) (by simp)).trans HC.out.1
          refine op_do rfl (wanted_none rfl) hK (fun K' hK' => ?_)
          unfold Oper.wp
          go_simp
          exact hK' _ _ (Fr.refl _ _) rfl
        · have e1 := hG.old 1 (by kernel_rfl)
          refine op_do rfl (wanted_none rfl) hK (fun K' hK' => ?_)
          unfold Oper.wp
          go_simp
          exact hK' _ _ (Fr.refl _ _) rfl
        · have e14 := hG.old 14 (by kernel_rfl)
          refine op_do rfl (wanted_none rfl) hK (fun K' hK' => ?_)
          unfold Oper.wp
          go_simp
          exact hK' _ _ (Fr.refl _ _) rfl
        · have e84 := hG.val (v := .slice (some ⟨g, o, none⟩) n c) 4 84 (hd _ rfl ⟨4, .data⟩ (by simp) rfl) rfl rfl
          have e85 := hG.val (v := .int .i64 (j : Nat)) 5 85 (hd _ rfl ⟨5, .data⟩ (by simp) rfl) rfl rfl
          refine op_do rfl (wanted_none rfl) hK (fun K' hK' => ?_)
          unfold Oper.wp
          go_simp
          exact hK' _ _ (Fr.refl _ _) rfl
        · have e86 := hG.val (v := .pointer (some ⟨g, o + j, none⟩)) 6 86 (hd _ rfl ⟨6, .data⟩ (by simp) rfl) rfl rfl
          have cx := (hG.grown.cell (World.block_lt_of_cell? wi _ HC.out.2.2) (by simp)).trans HC.out.2.2
          refine op_do rfl (wanted_none rfl) hK (fun K' hK' => ?_)
          unfold Oper.wp
          go_simp
          exact hK' _ _ (Fr.refl _ _) rfl
        · have e87 := hG.val (v := .int .i64 x) 7 87 (hd _ rfl ⟨7, .data⟩ (by simp) rfl) rfl rfl
          refine op_do rfl (wanted_none rfl) hK (fun K' hK' => ?_)
          unfold Oper.wp
          go_simp
          refine (HTX2.out W1 hG.grown).mono ?_
          rintro e W2 ⟨rfl, f⟩
          exact hK' _ _ f rfl
        · have e83 := hG.val (v := .string s) 3 83 (hd _ rfl ⟨3, .data⟩ (by simp) rfl) rfl rfl
          have e88 := hG.val (v := .string s) 8 88 (hd _ rfl ⟨8, .data⟩ (by simp) rfl) rfl rfl
          refine op_do rfl (wanted_none rfl) hK (fun K' hK' => ?_)
          unfold Oper.wp
          go_simp
          exact hK' _ _ (Fr.refl _ _) rfl
      · intro vs W1 f1 hv
        have r0 : vs 0 = .slice (some ⟨gt, 0, none⟩) n ct := hv 0 80 (by decide) rfl
        have r1 : vs 1 = .int .i64 (j : Nat) := hv 1 81 (by decide) rfl
        have r2 : vs 2 = .pointer (some ⟨gt, j, none⟩) := hv 2 82 (by decide) rfl
        have r3 : vs 3 = .string s := hv 3 83 (by decide) rfl
        have r4 : vs 4 = .slice (some ⟨g, o, none⟩) n c := hv 4 84 (by decide) rfl
        have r5 : vs 5 = .int .i64 (j : Nat) := hv 5 85 (by decide) rfl
        have r6 : vs 6 = .pointer (some ⟨g, o + j, none⟩) := hv 6 86 (by decide) rfl
        have r7 : vs 7 = .int .i64 x := hv 7 87 (by decide) rfl
        have r8 : vs 8 = .string s := hv 8 88 (by decide) rfl
        have r9 : vs 9 = .bool false := hv 9 89 (by decide) rfl
        simp only [lay, List.foldl_cons, List.foldl_nil, r0, r1, r2, r3, r4, r5, r6, r7, r8, r9]
        simp only [List.setIfInBounds_toArray, List.set_cons_zero, List.set_cons_succ]
        clear hv r0 r1 r2 r3 r4 r5 r6 r7 r8 r9
        have cx := (f1.cell (World.block_lt_of_cell? wi _ HC.out.1) (by simp)).trans HC.out.1
        have cf := (f1.frozen (a := ⟨gt, j, none⟩) (World.block_lt_of_cell? wi _ HC.out.1) (by simp)).trans HC.out.2.1
        have HF1 := Lib.hid f1
        clear f1
        go_wp2
        go_roundw
        case rel => exact ⟨j + 1, by go_num, by omega, own_setS (own_fr HA.out.1 HF1.out (by simp)) _, (HA.out.2.trans HF1.out (by simp)).setCell _ _ (.inl (by simp [Value.ownBlock]))⟩
        case measure => simp [intOf]; omega
    · obtain rfl : j = n := by omega
      have HA := Lib.hid hfr
      clear hA hfr
      go_wp2
      go_ret
      exact ⟨rfl, HG.out.2.1.trans HA.out (fun x hx => .inr (HG.out.2.2 x (by simpa using hx)))⟩
set_option maxRecDepth 100000 in
set_option maxHeartbeats 4000000 in
theorem exact_full (w : World) (most : Nat) (pb sp : Value) (L : List Int) (hb : RdF w pb L.length 1 (ints L)) (hl : L.length ≤ 1048576) (hi : ∀ x ∈ L, I64 x) (hT : TB w) (h1 : 1 ≤ most) (h2 : most ≤ 64) (hm : most < L.length) :
    Calls Tryd.prog 3 #[.int .i64 most, pb, sp] w fun e w' => e = .returned (.bool true) ∧ Fr [] w w' := by
  obtain ⟨p, c, rfl, -, -⟩ := hb.form
  obtain ⟨n, hn⟩ : ∃ n, n = L.length := ⟨_, rfl⟩
  have H1 := Lib.hid (texts_any w _ L hb hi hl hT)
  have HN := Lib.hid (And.intro hn (And.intro hb (And.intro hi hT)))
  have H2 := Lib.hid (fun W p c => from_full W most n p c h1 h2 (by omega))
  have H3 := Lib.hid (fun W p c => rfrom_full W most n p c h1 h2 (by omega))
  have H4 := Lib.hid (fun W => LnS.new_ok W most h1 h2)
  have H5 := Lib.hid (fun W => rnew_ok W most h1 h2)
  have H6 := Lib.hid works_any
  rw [← hn] at H1 hl ⊢
  clear hb hi hT hm hn h1 h2
  go_enter Tryd.func3, Tryd.ntmps3
  go_wp2_with fail
  (with_reducible refine H1.out.mono ?_)
  rintro e W0 ⟨vt, rfl, ho, f0, hg⟩
  rw [← HN.out.1] at ho
  obtain ⟨pt, ct, rfl⟩ := own_form ho
  have HG0 := Lib.hid (And.intro ho (And.intro f0 hg))
  clear ho f0 hg
  go_wp2_with (first | (go_at_call 6; refine (H2.out _ _ _).mono ?_; rintro e w1 ⟨rfl, f1⟩; have HF1 := Lib.hid f1; clear f1) | (go_at_call 7; refine (H3.out _ _ _).mono ?_; rintro e w2 ⟨rfl, f1⟩; have HF2 := Lib.hid f1; clear f1) | (go_at_call 8; refine (H4.out _).mono ?_; rintro e w3 ⟨rfl, -, f1⟩; have HF3 := Lib.hid f1; clear f1) | (go_at_call 9; refine (H6.out _).mono ?_; rintro e w4 ⟨rfl, f1⟩; have HF4 := Lib.hid f1; clear f1) | (go_at_call 10; refine (H5.out _).mono ?_; rintro e w5 ⟨rfl, -, f1⟩; have HF5 := Lib.hid f1; clear f1))
  have HF := Lib.hid ((((HF1.out.trans HF2.out (by simp)).trans HF3.out (by simp)).trans HF4.out (by simp)).trans HF5.out (by simp))
  have HG := Lib.hid (show _ ∧ Fr [] w _ ∧ _ from ⟨own_fr HG0.out.1 HF.out (by simp), HG0.out.2.1.trans HF.out (by simp), HG0.out.2.2⟩)
  clear HG0 HF HF1 HF2 HF3 HF4 HF5
  go_loopw [14] (fun i wr => ∃ j : Nat, i = .int .i64 j ∧ j ≤ n ∧ wr.ownsRow 0 9 1 (.slice pt n ct) n (ovr L j) ∧ Fr (Value.slice pt n ct).ownBlock.toList w5 wr) (fun i _ => n - (intOf i).toNat)
  case atStart => exact ⟨0, rfl, Nat.zero_le _, HG.out.1, Fr.refl _ _⟩
  case round =>
    obtain ⟨j, rfl, hj, hA, hfr⟩ := hrel
    obtain ⟨wi, hwi⟩ : ∃ wi : World, wi = wr := ⟨_, rfl⟩
    rw [← hwi] at hA hfr ⊢
    clear hwi
    by_cases hlt : j < n
    · have hjl : j < L.length := by have := HN.out.1; omega
      obtain ⟨x, hx⟩ : ∃ x, L[j] = x := ⟨_, rfl⟩
      have hcx := ovr_at L j hjl j (Nat.le_refl _)
      rw [hx] at hcx
      obtain ⟨gt, rfl⟩ : ∃ gt, pt = some ⟨gt, 0, none⟩ := by
        rcases hA.2 with ⟨_, h9⟩ | ⟨g, cap, cur, h9, _⟩
        · omega
        · cases h9; exact ⟨g, rfl⟩
      have c1 := hA.cells (g := gt) rfl j _ hcx
      rw [Addr.add_lit, Nat.zero_add] at c1
      have cfz : wi.frozen? ⟨gt, j, none⟩ = false := by
        rcases hA.2 with ⟨h2, _⟩ | ⟨g', cap', cur, h2, hb, hg, _⟩
        · cases h2
        · cases h2; exact Blk.free (w := wi) (show Blk wi gt cur 9 from hg) j
      obtain ⟨g, o, cap', he, _, _, hcell⟩ := HN.out.2.1.pos (by omega)
      rw [← HN.out.1] at he
      cases he
      have z0 := hcell j (.int .i64 x) (by simp [ints, hjl, hx])
      have hgt : w.heap.size ≤ gt := HG.out.2.2 gt rfl
      have z1 := HG.out.2.1.cell (World.block_lt_of_cell? w _ z0) (by simp) |>.trans z0
      have hglt := World.block_lt_of_cell? w _ z0
      have z2 := (hfr.cell (World.block_lt_of_cell? w5 _ z1) (by simp [Value.ownBlock]; simp at hglt; omega)).trans z1
      have hT : TB wi := (HN.out.2.2.2.fr HG.out.2.1 (by simp)).fr hfr (by have := HN.out.2.2.2.lt; simp [Value.ownBlock]; omega)
      have hxi := HN.out.2.2.1 x (by rw [← hx]; exact List.getElem_mem hjl)
      have HTX2 := Lib.hid (fun W (f : Fr [] wi W) => text_any W x hxi (hT.fr f (by simp)))
      have HA := Lib.hid (And.intro hA hfr)
      have j0 : (0 : Int) ≤ (j : Int) := by omega
      have j1 : (j : Int) < (n : Int) := by omega
      obtain ⟨s, hs⟩ : ∃ s, s = txt x := ⟨_, rfl⟩
      rw [← hs] at HTX2 c1
      have HC := Lib.hid (And.intro c1 (And.intro cfz z2))
      clear c1 cfz z2
      clear hA hfr hcx hcell z0 z1 hglt hT hjl hx hs hgt hxi
      go_wp2_with fail
      refine region_grow (by kernel_rfl) (by kernel_rfl) [.is (.slice (some ⟨gt, 0, none⟩) n ct), .is (.int .i64 (j : Nat)), .is (.pointer (some ⟨gt, j, none⟩)), .is (.string s), .is (.slice (some ⟨g, o, none⟩) n c), .is (.int .i64 (j : Nat)), .is (.pointer (some ⟨g, o + j, none⟩)), .is (.int .i64 x), .is (.string s), .is (.bool false)] 158 rfl (by kernel_rfl) [(0, 80), (1, 81), (2, 82), (3, 83), (4, 84), (5, 85), (6, 86), (7, 87), (8, 88), (9, 89)] (by kernel_rfl) ?_ ?_
      · intro q a1 W1 i hi hnq hd hG K hK
        have hlt : i < 10 := hi
        have hc : i = 0 ∨ i = 1 ∨ i = 2 ∨ i = 3 ∨ i = 4 ∨ i = 5 ∨ i = 6 ∨ i = 7 ∨ i = 8 ∨ i = 9 := by omega
        rcases hc with rfl | rfl | rfl | rfl | rfl | rfl | rfl | rfl | rfl | rfl
        · have e7 := hG.old 7 (by kernel_rfl)
          refine op_do rfl (wanted_none rfl) hK (fun K' hK' => ?_)
          unfold Oper.wp
          go_simp
          exact hK' _ _ (Fr.refl _ _) rfl
        · have e14 := hG.old 14 (by kernel_rfl)
          refine op_do rfl (wanted_none rfl) hK (fun K' hK' => ?_)
          unfold Oper.wp
          go_simp
          exact hK' _ _ (Fr.refl _ _) rfl
        · have e80 := hG.val (v := .slice (some ⟨gt, 0, none⟩) n ct) 0 80 (hd _ rfl ⟨0, .data⟩ (by simp) rfl) rfl rfl
          have e81 := hG.val (v := .int .i64 (j : Nat)) 1 81 (hd _ rfl ⟨1, .data⟩ (by simp) rfl) rfl rfl
          refine op_do rfl (wanted_none rfl) hK (fun K' hK' => ?_)
          unfold Oper.wp
          go_simp
          exact hK' _ _ (Fr.refl _ _) rfl
        · have e82 := hG.val (v := .pointer (some ⟨gt, j, none⟩)) 2 82 (hd _ rfl ⟨2, .data⟩ (by simp) rfl) rfl rfl
          have cx := (hG.grown.cell (World.block_lt_of_cell? wi _ HC.out.1) (by simp)).trans HC.out.1
          refine op_do rfl (wanted_none rfl) hK (fun K' hK' => ?_)
          unfold Oper.wp
          go_simp
          exact hK' _ _ (Fr.refl _ _) rfl
        · have e1 := hG.old 1 (by kernel_rfl)
          refine op_do rfl (wanted_none rfl) hK (fun K' hK' => ?_)
          unfold Oper.wp
          go_simp
          exact hK' _ _ (Fr.refl _ _) rfl
        · have e14 := hG.old 14 (by kernel_rfl)
          refine op_do rfl (wanted_none rfl) hK (fun K' hK' => ?_)
          unfold Oper.wp
          go_simp
          exact hK' _ _ (Fr.refl _ _) rfl
        · have e84 := hG.val (v := .slice (some ⟨g, o, none⟩) n c) 4 84 (hd _ rfl ⟨4, .data⟩ (by simp) rfl) rfl rfl
          have e85 := hG.val (v := .int .i64 (j : Nat)) 5 85 (hd _ rfl ⟨5, .data⟩ (by simp) rfl) rfl rfl
          refine op_do rfl (wanted_none rfl) hK (fun K' hK' => ?_)
          unfold Oper.wp
          go_simp
          exact hK' _ _ (Fr.refl _ _) rfl
        · have e86 := hG.val (v := .pointer (some ⟨g, o + j, none⟩)) 6 86 (hd _ rfl ⟨6, .data⟩ (by simp) rfl) rfl rfl
          have cx := (hG.grown.cell (World.block_lt_of_cell? wi _ HC.out.2.2) (by simp)).trans HC.out.2.2
          refine op_do rfl (wanted_none rfl) hK (fun K' hK' => ?_)
          unfold Oper.wp
          go_simp
          exact hK' _ _ (Fr.refl _ _) rfl
        · have e87 := hG.val (v := .int .i64 x) 7 87 (hd _ rfl ⟨7, .data⟩ (by simp) rfl) rfl rfl
          refine op_do rfl (wanted_none rfl) hK (fun K' hK' => ?_)
          unfold Oper.wp
          go_simp
          refine (HTX2.out W1 hG.grown).mono ?_
          rintro e W2 ⟨rfl, f⟩
          exact hK' _ _ f rfl
        · have e83 := hG.val (v := .string s) 3 83 (hd _ rfl ⟨3, .data⟩ (by simp) rfl) rfl rfl
          have e88 := hG.val (v := .string s) 8 88 (hd _ rfl ⟨8, .data⟩ (by simp) rfl) rfl rfl
          refine op_do rfl (wanted_none rfl) hK (fun K' hK' => ?_)
          unfold Oper.wp
          go_simp
          exact hK' _ _ (Fr.refl _ _) rfl
      · intro vs W1 f1 hv
        have r0 : vs 0 = .slice (some ⟨gt, 0, none⟩) n ct := hv 0 80 (by decide) rfl
        have r1 : vs 1 = .int .i64 (j : Nat) := hv 1 81 (by decide) rfl
        have r2 : vs 2 = .pointer (some ⟨gt, j, none⟩) := hv 2 82 (by decide) rfl
        have r3 : vs 3 = .string s := hv 3 83 (by decide) rfl
        have r4 : vs 4 = .slice (some ⟨g, o, none⟩) n c := hv 4 84 (by decide) rfl
        have r5 : vs 5 = .int .i64 (j : Nat) := hv 5 85 (by decide) rfl
        have r6 : vs 6 = .pointer (some ⟨g, o + j, none⟩) := hv 6 86 (by decide) rfl
        have r7 : vs 7 = .int .i64 x := hv 7 87 (by decide) rfl
        have r8 : vs 8 = .string s := hv 8 88 (by decide) rfl
        have r9 : vs 9 = .bool false := hv 9 89 (by decide) rfl
        simp only [lay, List.foldl_cons, List.foldl_nil, r0, r1, r2, r3, r4, r5, r6, r7, r8, r9]
        simp only [List.setIfInBounds_toArray, List.set_cons_zero, List.set_cons_succ]
        clear hv r0 r1 r2 r3 r4 r5 r6 r7 r8 r9
        have cx := (f1.cell (World.block_lt_of_cell? wi _ HC.out.1) (by simp)).trans HC.out.1
        have cf := (f1.frozen (a := ⟨gt, j, none⟩) (World.block_lt_of_cell? wi _ HC.out.1) (by simp)).trans HC.out.2.1
        have HF1 := Lib.hid f1
        clear f1
        go_wp2
        go_roundw
        case rel => exact ⟨j + 1, by go_num, by omega, own_setS (own_fr HA.out.1 HF1.out (by simp)) _, (HA.out.2.trans HF1.out (by simp)).setCell _ _ (.inl (by simp [Value.ownBlock]))⟩
        case measure => simp [intOf]; omega
    · obtain rfl : j = n := by omega
      have HA := Lib.hid hfr
      clear hA hfr
      go_wp2
      go_ret
      exact ⟨rfl, HG.out.2.1.trans HA.out (fun x hx => .inr (HG.out.2.2 x (by simpa using hx)))⟩
end Go.Proofs.YtiimmndhinoaiaaDoor
