/-
  LinkExact: where there is a line. Printed by genLxH.py.
-/
import Derived.Test.YtiimmndhinoaiaaDoorLxG
namespace Go.Proofs.YtiimmndhinoaiaaDoor
open Go.RowKit Go.Shelf
set_option linter.unusedVariables false
set_option linter.unusedSimpArgs false
attribute [local go_sem] Oper.semAt_some
theorem LK.frS {S : List Nat} {W W' : World} {b r most : Nat} {vl vr : Value} {V : List Int} {B : Bk} (h : LK W b r vl vr V most B) (f : Fr S W W') (h1 : b ∉ S) (h2 : r ∉ S) (h3 : ∀ g, vl.ownBlock = some g → g ∉ S) (h4 : ∀ g, vr.ownBlock = some g → g ∉ S) : LK W' b r vl vr V most B := ⟨h.l.fr f h1 h3, h.r.fr f h2 h4⟩
/-- How a step lies. -/
structure Stp where
  kd : Int
  sv : Int
  si : Int
def QStp (cs : List Value) (s : Stp) : Prop := cs = [.int .i64 s.kd, .int .i64 s.sv, .int .i64 s.si] ∧ I64 s.sv
theorem infoKE : (Tryd.prog.info? 46).map (fun i => (i.zero, i.size, i.bytes)) = some (some (.agg #[.nilFunc, .slice none 0 0]), 2, 32) := by kernel_rfl
/-- An iterator that was just taken; beside what it is to tell; a list of one. -/
def Stab.allL (n0 : Nat) (L : List ByteArray) : Stab := ⟨fun u W => ∃ kb vx, u = .func (.func 32) #[] #[.pointer (some ⟨kb, 0, none⟩)] ∧ LnS.AllHeld kb vx L W ∧ n0 ≤ kb ∧ ∀ g, vx.ownBlock = some g → n0 ≤ g, fun u W W' f ⟨kb, vx, h, hA, hn⟩ => ⟨kb, vx, h, AllHeld.fr0 hA f, hn⟩⟩
def Stab.keptL (n0 : Nat) (L : List ByteArray) (x : Value) : Stab := ⟨fun u W => ∃ kb vx, u = .agg #[.func (.func 32) #[] #[.pointer (some ⟨kb, 0, none⟩)], x] ∧ LnS.AllHeld kb vx L W ∧ n0 ≤ kb ∧ ∀ g, vx.ownBlock = some g → n0 ≤ g, fun u W W' f ⟨kb, vx, h, hA, hn⟩ => ⟨kb, vx, h, AllHeld.fr0 hA f, hn⟩⟩
def Stab.oneL (n0 : Nat) (L : List ByteArray) (x : Value) : Stab := ⟨fun u W => ∃ kb vx g, u = .slice (some ⟨g, 0, none⟩) 1 1 ∧ (∀ j y, ([.func (.func 32) #[] #[.pointer (some ⟨kb, 0, none⟩)], x] : List Value)[j]? = some y → W.cell? ((⟨g, 0, none⟩ : Addr).add j) = some y) ∧ g < W.heap.size ∧ LnS.AllHeld kb vx L W ∧ n0 ≤ kb ∧ ∀ g, vx.ownBlock = some g → n0 ≤ g, fun u W W' f h => by
  obtain ⟨kb, vx, g, h1, h2, h3, h4, h5⟩ := h
  refine ⟨kb, vx, g, h1, fun j y hj => (f.cell (a := (⟨g, 0, none⟩ : Addr).add j) ?_ (by simp)).trans (h2 j y hj), Nat.lt_of_lt_of_le h3 f.size, AllHeld.fr0 h4 f, h5⟩
  rw [Addr.add_lit]
  exact h3⟩
theorem LI.step2 {w0 W W' : World} {b r n i' most : Nat} {vl vr lv vl' vr' : Value} {V V' : List Int} {B B' : Bk} {κs : List KE} (hfr0 : Fr [] w0 W) (hlk : LK W b r vl vr V most B) (hrow : W.ownsRow 0 46 2 lv κs.length (κs.flatMap encKE)) (hlow : w0.heap.size ≤ b ∧ w0.heap.size ≤ r ∧ (∀ g, vl.ownBlock = some g → w0.heap.size ≤ g) ∧ ∀ g, lv.ownBlock = some g → w0.heap.size ≤ g) (hlen : κs.length ≤ i') (hkept : ∀ κ ∈ κs, KeOk κ W ∧ ∀ g ∈ keb κ, g ∉ b :: r :: vl.ownBlock.toList ∧ g ∉ lv.ownBlock.toList)
    (lk : LK W' b r vl' vr' V' most B') (hf : Fine n i' most V' B') (m1 : Mv W vl vl') (f : Fr (b :: r :: vl.ownBlock.toList) W W') : LI w0 b r n i' most vl' vr' lv V' B' κs W' := by
  have h0 := hfr0.size
  have hsep : ∀ g, lv.ownBlock = some g → g ∉ b :: r :: vl.ownBlock.toList := fun g hg hm => by
    rcases List.mem_cons.1 hm with rfl | hm
    · exact own_notin hrow hlk.l.1 (by decide) (by simp [hg])
    · rcases List.mem_cons.1 hm with rfl | hm
      · exact own_notin hrow hlk.r.1 (by decide) (by simp [hg])
      · obtain ⟨c1, h1⟩ := own_blk hrow g (by simp [hg])
        obtain ⟨c2, h2⟩ := own_blk hlk.l.2 g hm
        exact absurd (h1.inj h2).2 (by decide)
  refine ⟨lk, hf, hfr0.trans f (fun x hx => .inr ?_), own_fr hrow f hsep, ⟨hlow.1, hlow.2.1, fun g hg => ?_, hlow.2.2.2⟩, hlen, fun κ hκ => ?_⟩
  · rcases List.mem_cons.1 hx with rfl | hx
    · exact hlow.1
    · rcases List.mem_cons.1 hx with rfl | hx
      · exact hlow.2.1
      · exact hlow.2.2.1 x (by simpa using hx)
  · rcases m1 g hg with q | q
    · exact hlow.2.2.1 g q
    · omega
  · obtain ⟨h1, h2⟩ := hkept κ hκ
    refine ⟨h1.fr f (fun g hg => (h2 g hg).1), fun g hg => ⟨fun hm => ?_, (h2 g hg).2⟩⟩
    have h3 := (h2 g hg).1
    have h4 := h1.lt g hg
    rcases List.mem_cons.1 hm with q | hm
    · exact h3 (by simp [q])
    · rcases List.mem_cons.1 hm with q | hm
      · exact h3 (by simp [q])
      · rcases m1 g (by simpa using hm) with q | q
        · exact h3 (by simp [q])
        · omega
/-- What an iterator that was just taken stands on. -/
theorem LI.fresh {w0 W W1 : World} {b r n i most : Nat} {vl lv : Value} {V : List Int} {B : Bk} {κs : List KE} {kb p c} {vx : Value} (h : LI w0 b r n i most vl (.slice p V.length c) lv V B κs W) (f1 : Fr [] W W1) (hh : LnS.AllHeld kb vx (V.map txt) W1) (h1 : W.heap.size ≤ kb) (h2 : ∀ g, vx.ownBlock = some g → W.heap.size ≤ g) (hm : V.length ≤ 64) :
    KeOk ⟨kb, vx, V, p, c⟩ W1 ∧ ∀ g ∈ keb ⟨kb, vx, V, p, c⟩, g ∉ b :: r :: vl.ownBlock.toList ∧ g ∉ lv.ownBlock.toList := by
  have hlts : ∀ g, g ∈ b :: r :: vl.ownBlock.toList ∨ g ∈ lv.ownBlock.toList → g < W.heap.size := fun g hg => by
    rcases hg with hg | hg
    · rcases List.mem_cons.1 hg with rfl | hg
      · exact h.lk.l.lt
      · rcases List.mem_cons.1 hg with rfl | hg
        · exact h.lk.r.lt
        · exact own_lt h.lk.l.2 (by simpa using hg)
    · exact own_lt h.row (by simpa using hg)
  refine ⟨⟨hh, own_fr h.lk.r.2 f1 (by simp), hm, h.fine.num⟩, fun g hg => ?_⟩
  have hbig : W.heap.size ≤ g → g ∉ b :: r :: vl.ownBlock.toList ∧ g ∉ lv.ownBlock.toList := fun hge => ⟨fun q => by have := hlts g (.inl q); omega, fun q => by have := hlts g (.inr q); omega⟩
  rcases List.mem_cons.1 hg with rfl | hg
  · exact hbig h1
  · rcases List.mem_append.1 hg with hg | hg
    · exact hbig (h2 g (by simpa using hg))
    · have hg' : g ∈ (Value.slice p V.length c).ownBlock.toList := hg
      obtain ⟨c1, h3⟩ := own_blk h.lk.r.2 g hg'
      refine ⟨fun hm => ?_, fun hm => ?_⟩
      · rcases List.mem_cons.1 hm with rfl | hm
        · exact h.lk.b_vr hg'
        · rcases List.mem_cons.1 hm with rfl | hm
          · exact h.lk.r.notin hg'
          · exact h.lk.v_v g (by simpa using hg') hm
      · obtain ⟨c2, h4⟩ := own_blk h.row g hm
        exact absurd (h3.inj h4).2 (by decide)
set_option maxRecDepth 100000 in
set_option maxHeartbeats 4000000 in
theorem exact_ok (w : World) (most : Nat) (pb sp : Value) (L : List Int) (C : List Stp) (hC : RdS w sp 3 QStp C) (hCl : C.length ≤ 1048576) (hb : RdF w pb L.length 1 (ints L)) (hl : L.length ≤ most) (hi : ∀ x ∈ L, I64 x) (hT : TB w) (h1 : 1 ≤ most) (h2 : most ≤ 64) :
    Calls Tryd.prog 3 #[.int .i64 most, pb, sp] w fun e w' => e = .returned (.bool true) ∧ Fr [] w w' := by
  obtain ⟨p, c, rfl, -, -⟩ := hb.form
  obtain ⟨n, hn⟩ : ∃ n, n = L.length := ⟨_, rfl⟩
  have H1 := Lib.hid (texts_any w _ L hb hi (by omega) hT)
  have HN := Lib.hid (And.intro hn (And.intro hb (And.intro hi hT)))
  have HM := Lib.hid (And.intro hl (And.intro h1 (And.intro h2 (And.intro hC hCl))))
  have H2 := Lib.hid (fun W pv (h : RdF W pv (L.map txt).length 1 (strs (L.map txt))) => from_ok W most pv (L.map txt) h h1 h2 (by rw [List.length_map]; exact hl))
  have H3 := Lib.hid (fun W (f : Fr [] w W) => rfrom_ok W most _ L (hb.grow f) h1 h2 hl)
  have H4 := Lib.hid (fun W => LnS.new_ok W most h1 h2)
  have H5 := Lib.hid (fun W => rnew_ok W most h1 h2)
  have H6 := Lib.hid works_any
  obtain ⟨qs, cs, rfl, hcs, -⟩ := RdS.form hC
  obtain ⟨N, hN⟩ : ∃ N, N = C.length := ⟨_, rfl⟩
  rw [← hN] at hCl ⊢
  have HNN := Lib.hid hN
  clear hN hcs
  rw [← hn] at H1 H3 hl ⊢
  have hl2 : n ≤ 1048576 := by omega
  clear hb hi hT hn h1 h2 hC hl
  go_enter Tryd.func3, Tryd.ntmps3
  go_wp2_with fail
  (with_reducible refine H1.out.mono ?_)
  rintro e W0 ⟨vt, rfl, ho, f0, hg⟩
  rw [← HN.out.1] at ho
  obtain ⟨pt, ct, rfl⟩ := own_form ho
  have HR := Lib.hid (show RdF W0 (.slice pt n ct) (L.map txt).length 1 (strs (L.map txt)) from by rw [List.length_map, ← HN.out.1]; exact RdF.of_own (by decide) ho (by unfold maxLen; omega))
  have HG0 := Lib.hid (And.intro ho (And.intro f0 hg))
  clear ho f0 hg
  go_wp2_with (first | (go_at_call 6; refine (H2.out _ _ HR.out).mono ?_; rintro e w1 ⟨b, vl, rfl, hL, hlb, hlv, f1⟩; have HL := Lib.hid (And.intro hL (And.intro hlb (And.intro hlv f1))); clear hL hlb hlv f1) | (go_at_call 7; refine (H3.out _ (HG0.out.2.1.trans HL.out.2.2.2 (by simp))).mono ?_; rintro e w2 ⟨r, vr, rfl, hR, hlr, hlv, f1⟩; have HRR := Lib.hid (And.intro hR (And.intro hlr (And.intro hlv f1))); clear hR hlr hlv f1) | (go_at_call 8; refine (H4.out _).mono ?_; rintro e w3 ⟨rfl, hN0, f1⟩; have HF3 := Lib.hid (And.intro hN0 f1); clear hN0 f1) | (go_at_call 9; refine (H6.out _).mono ?_; rintro e w4 ⟨rfl, f1⟩; have HF4 := Lib.hid f1; clear f1) | (go_at_call 10; refine (H5.out _).mono ?_; rintro e w5 ⟨rfl, -, f1⟩; have HF5 := Lib.hid f1; clear f1))
  have HF25 := Lib.hid (((HF3.out.2.trans HF4.out (by simp)).trans HF5.out (by simp)))
  have HF := Lib.hid ((HL.out.2.2.2.trans HRR.out.2.2.2 (by simp)).trans HF25.out (by simp))
  have HLK := Lib.hid (show LK w5 b r vl vr L most ⟨0, 0, 0, 0⟩ from ⟨HL.out.1.fr (HRR.out.2.2.2.trans HF25.out (by simp)) (by simp) (by simp), HRR.out.1.fr HF25.out (by simp) (by simp)⟩)
  obtain ⟨z, hz⟩ : ∃ z, z = w2.heap.size := ⟨_, rfl⟩
  have hzb : b < z := by rw [hz]; exact Nat.lt_of_lt_of_le HL.out.1.lt HRR.out.2.2.2.size
  have hzl : W0.heap.size ≤ z := by rw [hz]; exact Nat.le_trans HL.out.2.2.2.size HRR.out.2.2.2.size
  rw [← hz] at HF3 ⊢
  clear hz
  have HZ := Lib.hid (And.intro hzb hzl)
  have HNo := Lib.hid (HF3.out.1.fr (HF4.out.trans HF5.out (by simp)) (by simp) (by simp))
  have HG := Lib.hid (show _ ∧ Fr [] w _ ∧ _ from ⟨own_fr HG0.out.1 HF.out (by simp), HG0.out.2.1.trans HF.out (by simp), HG0.out.2.2⟩)
  have HLow := Lib.hid (show (∀ x ∈ (Value.slice pt n ct).ownBlock.toList, x < W0.heap.size) ∧ W0.heap.size ≤ b ∧ W0.heap.size ≤ r ∧ (∀ g, vl.ownBlock = some g → W0.heap.size ≤ g) ∧ (∀ g, vr.ownBlock = some g → W0.heap.size ≤ g) ∧ w.heap.size ≤ W0.heap.size from
    ⟨fun x hx => own_lt HG0.out.1 (by simpa using hx), HL.out.2.1, Nat.le_trans HL.out.2.2.2.size HRR.out.2.1, HL.out.2.2.1, fun g hg => Nat.le_trans HL.out.2.2.2.size (HRR.out.2.2.1 g hg), HG0.out.2.1.size⟩)
  clear HF3 HF4 HF5 HF25 HF HG0
  go_loopw [14] (fun i wr => ∃ j : Nat, i = .int .i64 j ∧ j ≤ n ∧ wr.ownsRow 0 9 1 (.slice pt n ct) n (ovr L j) ∧ Fr (Value.slice pt n ct).ownBlock.toList w5 wr) (fun i _ => n - (intOf i).toNat)
  case atStart => exact ⟨0, rfl, Nat.zero_le _, HG.out.1, Fr.refl _ _⟩
  case round =>
    obtain ⟨j, rfl, hj, hA, hfr⟩ := hrel
    obtain ⟨wi, hwi⟩ : ∃ wi : World, wi = wr := ⟨_, rfl⟩
    rw [← hwi] at hA hfr ⊢
    clear hwi
    by_cases hlt : j < n
    · have hjl : j < L.length := by have := HN.out.1; omega
      obtain ⟨x, hx⟩ : ∃ x, L[j] = x := ⟨_, rfl⟩
      have hcx := ovr_at L j hjl j (Nat.le_refl _)
      rw [hx] at hcx
      obtain ⟨gt, rfl⟩ : ∃ gt, pt = some ⟨gt, 0, none⟩ := by
        rcases hA.2 with ⟨_, h9⟩ | ⟨g, cap, cur, h9, _⟩
        · omega
        · cases h9; exact ⟨g, rfl⟩
      have c1 := hA.cells (g := gt) rfl j _ hcx
      rw [Addr.add_lit, Nat.zero_add] at c1
      have cfz : wi.frozen? ⟨gt, j, none⟩ = false := by
        rcases hA.2 with ⟨h2, _⟩ | ⟨g', cap', cur, h2, hb, hg, _⟩
        · cases h2
        · cases h2; exact Blk.free (w := wi) (show Blk wi gt cur 9 from hg) j
      obtain ⟨g, o, cap', he, _, _, hcell⟩ := HN.out.2.1.pos (by omega)
      rw [← HN.out.1] at he
      cases he
      have z0 := hcell j (.int .i64 x) (by simp [ints, hjl, hx])
      have hgt : w.heap.size ≤ gt := HG.out.2.2 gt rfl
      have z1 := HG.out.2.1.cell (World.block_lt_of_cell? w _ z0) (by simp) |>.trans z0
      have hglt := World.block_lt_of_cell? w _ z0
      have z2 := (hfr.cell (World.block_lt_of_cell? w5 _ z1) (by simp [Value.ownBlock]; simp at hglt; omega)).trans z1
      have hT : TB wi := (HN.out.2.2.2.fr HG.out.2.1 (by simp)).fr hfr (by have := HN.out.2.2.2.lt; simp [Value.ownBlock]; omega)
      have hxi := HN.out.2.2.1 x (by rw [← hx]; exact List.getElem_mem hjl)
      have HTX2 := Lib.hid (fun W (f : Fr [] wi W) => text_any W x hxi (hT.fr f (by simp)))
      have HA := Lib.hid (And.intro hA hfr)
      have j0 : (0 : Int) ≤ (j : Int) := by omega
      have j1 : (j : Int) < (n : Int) := by omega
      obtain ⟨s, hs⟩ : ∃ s, s = txt x := ⟨_, rfl⟩
      rw [← hs] at HTX2 c1
      have HC := Lib.hid (And.intro c1 (And.intro cfz z2))
      clear c1 cfz z2
      clear hA hfr hcx hcell z0 z1 hglt hT hjl hx hs hgt hxi
      go_wp2_with fail
      refine region_grow (by kernel_rfl) (by kernel_rfl) [.is (.slice (some ⟨gt, 0, none⟩) n ct), .is (.int .i64 (j : Nat)), .is (.pointer (some ⟨gt, j, none⟩)), .is (.string s), .is (.slice (some ⟨g, o, none⟩) n c), .is (.int .i64 (j : Nat)), .is (.pointer (some ⟨g, o + j, none⟩)), .is (.int .i64 x), .is (.string s), .is (.bool false)] 158 rfl (by kernel_rfl) [(0, 80), (1, 81), (2, 82), (3, 83), (4, 84), (5, 85), (6, 86), (7, 87), (8, 88), (9, 89)] (by kernel_rfl) ?_ ?_
      · intro q a1 W1 i hi hnq hd hG K hK
        have hlt : i < 10 := hi
        have hc : i = 0 ∨ i = 1 ∨ i = 2 ∨ i = 3 ∨ i = 4 ∨ i = 5 ∨ i = 6 ∨ i = 7 ∨ i = 8 ∨ i = 9 := by omega
        rcases hc with rfl | rfl | rfl | rfl | rfl | rfl | rfl | rfl | rfl | rfl
        · have e7 := hG.old 7 (by kernel_rfl)
          refine op_do rfl (wanted_none rfl) hK (fun K' hK' => ?_)
          unfold Oper.wp
          go_simp
          exact hK' _ _ (Fr.refl _ _) rfl
        · have e14 := hG.old 14 (by kernel_rfl)
          refine op_do rfl (wanted_none rfl) hK (fun K' hK' => ?_)
          unfold Oper.wp
          go_simp
          exact hK' _ _ (Fr.refl _ _) rfl
        · have e80 := hG.val (v := .slice (some ⟨gt, 0, none⟩) n ct) 0 80 (hd _ rfl ⟨0, .data⟩ (by simp) rfl) rfl rfl
          have e81 := hG.val (v := .int .i64 (j : Nat)) 1 81 (hd _ rfl ⟨1, .data⟩ (by simp) rfl) rfl rfl
          refine op_do rfl (wanted_none rfl) hK (fun K' hK' => ?_)
          unfold Oper.wp
          go_simp
          exact hK' _ _ (Fr.refl _ _) rfl
        · have e82 := hG.val (v := .pointer (some ⟨gt, j, none⟩)) 2 82 (hd _ rfl ⟨2, .data⟩ (by simp) rfl) rfl rfl
          have cx := (hG.grown.cell (World.block_lt_of_cell? wi _ HC.out.1) (by simp)).trans HC.out.1
          refine op_do rfl (wanted_none rfl) hK (fun K' hK' => ?_)
          unfold Oper.wp
          go_simp
          exact hK' _ _ (Fr.refl _ _) rfl
        · have e1 := hG.old 1 (by kernel_rfl)
          refine op_do rfl (wanted_none rfl) hK (fun K' hK' => ?_)
          unfold Oper.wp
          go_simp
          exact hK' _ _ (Fr.refl _ _) rfl
        · have e14 := hG.old 14 (by kernel_rfl)
          refine op_do rfl (wanted_none rfl) hK (fun K' hK' => ?_)
          unfold Oper.wp
          go_simp
          exact hK' _ _ (Fr.refl _ _) rfl
        · have e84 := hG.val (v := .slice (some ⟨g, o, none⟩) n c) 4 84 (hd _ rfl ⟨4, .data⟩ (by simp) rfl) rfl rfl
          have e85 := hG.val (v := .int .i64 (j : Nat)) 5 85 (hd _ rfl ⟨5, .data⟩ (by simp) rfl) rfl rfl
          refine op_do rfl (wanted_none rfl) hK (fun K' hK' => ?_)
          unfold Oper.wp
          go_simp
          exact hK' _ _ (Fr.refl _ _) rfl
        · have e86 := hG.val (v := .pointer (some ⟨g, o + j, none⟩)) 6 86 (hd _ rfl ⟨6, .data⟩ (by simp) rfl) rfl rfl
          have cx := (hG.grown.cell (World.block_lt_of_cell? wi _ HC.out.2.2) (by simp)).trans HC.out.2.2
          refine op_do rfl (wanted_none rfl) hK (fun K' hK' => ?_)
          unfold Oper.wp
          go_simp
          exact hK' _ _ (Fr.refl _ _) rfl
        · have e87 := hG.val (v := .int .i64 x) 7 87 (hd _ rfl ⟨7, .data⟩ (by simp) rfl) rfl rfl
          refine op_do rfl (wanted_none rfl) hK (fun K' hK' => ?_)
          unfold Oper.wp
          go_simp
          refine (HTX2.out W1 hG.grown).mono ?_
          rintro e W2 ⟨rfl, f⟩
          exact hK' _ _ f rfl
        · have e83 := hG.val (v := .string s) 3 83 (hd _ rfl ⟨3, .data⟩ (by simp) rfl) rfl rfl
          have e88 := hG.val (v := .string s) 8 88 (hd _ rfl ⟨8, .data⟩ (by simp) rfl) rfl rfl
          refine op_do rfl (wanted_none rfl) hK (fun K' hK' => ?_)
          unfold Oper.wp
          go_simp
          exact hK' _ _ (Fr.refl _ _) rfl
      · intro vs W1 f1 hv
        have r0 : vs 0 = .slice (some ⟨gt, 0, none⟩) n ct := hv 0 80 (by decide) rfl
        have r1 : vs 1 = .int .i64 (j : Nat) := hv 1 81 (by decide) rfl
        have r2 : vs 2 = .pointer (some ⟨gt, j, none⟩) := hv 2 82 (by decide) rfl
        have r3 : vs 3 = .string s := hv 3 83 (by decide) rfl
        have r4 : vs 4 = .slice (some ⟨g, o, none⟩) n c := hv 4 84 (by decide) rfl
        have r5 : vs 5 = .int .i64 (j : Nat) := hv 5 85 (by decide) rfl
        have r6 : vs 6 = .pointer (some ⟨g, o + j, none⟩) := hv 6 86 (by decide) rfl
        have r7 : vs 7 = .int .i64 x := hv 7 87 (by decide) rfl
        have r8 : vs 8 = .string s := hv 8 88 (by decide) rfl
        have r9 : vs 9 = .bool false := hv 9 89 (by decide) rfl
        simp only [lay, List.foldl_cons, List.foldl_nil, r0, r1, r2, r3, r4, r5, r6, r7, r8, r9]
        simp only [List.setIfInBounds_toArray, List.set_cons_zero, List.set_cons_succ]
        clear hv r0 r1 r2 r3 r4 r5 r6 r7 r8 r9
        have cx := (f1.cell (World.block_lt_of_cell? wi _ HC.out.1) (by simp)).trans HC.out.1
        have cf := (f1.frozen (a := ⟨gt, j, none⟩) (World.block_lt_of_cell? wi _ HC.out.1) (by simp)).trans HC.out.2.1
        have HF1 := Lib.hid f1
        clear f1
        go_wp2
        go_roundw
        case rel => exact ⟨j + 1, by go_num, by omega, own_setS (own_fr HA.out.1 HF1.out (by simp)) _, (HA.out.2.trans HF1.out (by simp)).setCell _ _ (.inl (by simp [Value.ownBlock]))⟩
        case measure => simp [intOf]; omega
    · obtain rfl : j = n := by omega
      have hlk : LK wi b r vl vr L most ⟨0, 0, 0, 0⟩ := HLK.out.frS hfr (fun hm => by have := HLow.out.1 b hm; have := HLow.out.2.1; omega) (fun hm => by have := HLow.out.1 r hm; have := HLow.out.2.2.1; omega) (fun g hg hm => by have := HLow.out.1 g hm; have := HLow.out.2.2.2.1 g hg; omega) (fun g hg hm => by have := HLow.out.1 g hm; have := HLow.out.2.2.2.2.1 g hg; omega)
      have hf0 : Fr [] w wi := HG.out.2.1.trans hfr (fun x hx => .inr (HG.out.2.2 x (by simpa using hx)))
      have HI := Lib.hid (show LI w b r j 0 most vl vr (.slice none 0 0) L ⟨0, 0, 0, 0⟩ [] wi from ⟨hlk, ⟨⟨by simp, by simp, by simp, by simp⟩, by simp [HN.out.1], by have := HM.out.1; exact this, HN.out.2.2.1⟩, hf0, World.ownsRow_nil _ _ _ _, ⟨by have := HLow.out; omega, by have := HLow.out; omega, fun g hg => by have := HLow.out.2.2.2.1 g hg; have := HLow.out.2.2.2.2.2; omega, by simp [Value.ownBlock]⟩, by simp, by simp⟩)
      have HNw := Lib.hid (HNo.out.fr hfr (fun hm => by have := HLow.out.1 z hm; have := HZ.out.2; omega) (by simp [Value.ownBlock]))
      clear hlk hf0 hA hfr
      go_wp2_with fail
      go_loopw [15, 16] (fun lv i wr => ∃ (k : Nat) (vl vr : Value) (V : List Int) (B : Bk) (κs : List KE), i = .int .i64 (k : Nat) ∧ k ≤ N ∧ LI w b r j k most vl vr lv V B κs wr ∧ LnS.LineAt wr z (.slice none 0 0) [] most ⟨0, 0, 0, 0⟩) (fun _ i _ => N - (intOf i).toNat)
      case atStart => exact ⟨0, _, _, _, _, _, rfl, Nat.zero_le _, HI.out, HNw.out⟩
      case round =>
        obtain ⟨k, vl2, vr2, V, B, κs, rfl, hk, hI, hno⟩ := hrel
        obtain ⟨wr0, hwr0⟩ : ∃ wr0 : World, wr0 = wr := ⟨_, rfl⟩
        rw [← hwr0] at hI hno ⊢
        clear hwr0
        obtain ⟨pl, cl, rfl⟩ := own_form hI.row
        obtain ⟨nl, hnl⟩ : ∃ nl, nl = κs.length := ⟨_, rfl⟩
        rw [← hnl] at hI ⊢
        have HNL := Lib.hid hnl
        have HII := Lib.hid (And.intro hI hno)
        clear hI hno hnl
        by_cases hlt : k < N
        · obtain ⟨gS, oS, cpS, cs3, he, _, _, _, hcell, ⟨hcs3, x1⟩⟩ := HM.out.2.2.2.1.get (k := k) (by have := HNN.out; omega)
          rw [← HNN.out] at he
          cases he
          generalize C[k]'(by have := HNN.out; omega) = s at hcs3 x1
          subst hcs3
          have hz0 : w.cell? ⟨gS, oS + k * 3, none⟩ = some (.int .i64 s.kd) := by simpa using hcell 0 _ rfl
          have hz1 : w.cell? ⟨gS, oS + k * 3 + 1, none⟩ = some (.int .i64 s.sv) := hcell 1 _ rfl
          have hz2 : w.cell? ⟨gS, oS + k * 3 + 2, none⟩ = some (.int .i64 s.si) := hcell 2 _ rfl
          have hgS := World.block_lt_of_cell? w _ hz0
          have l0 : (0 : Int) ≤ (k : Int) := by omega
          have l1 : (k : Int) < (N : Int) := by omega
          clear hcell
          have hT0 : TB wr0 := HN.out.2.2.2.fr HII.out.1.fr (by simp)
          have HZ0 := Lib.hid (show 0 ≠ b ∧ 0 ≠ r from by have h0 := HN.out.2.2.2.lt; have h1 := HII.out.1.low; omega)
          by_cases h7 : s.kd = 7
          · obtain ⟨pr, cr, rfl, -, -, -⟩ := HII.out.1.lk.r.form
            have HV := Lib.hid (show V.length ≤ 64 by have := HII.out.1.fine.len; have := HM.out.2.2.1; omega)
            have HROW := Lib.hid (And.intro HII.out.1.row (show nl ≤ 1048576 by have := HII.out.1.len; rw [← HNL.out] at this; omega))
            rw [← HNL.out] at HROW
            have z0 := (HII.out.1.fr.cell hgS (by simp)).trans hz0
            have H7 := Lib.hid h7
            have HX := Lib.hid x1
            rw [h7] at z0
            clear h7 hT0 x1
            go_wp2_with fail
            clear z0
            refine region_tail (by kernel_rfl) (by kernel_rfl) [[], [], [1], [], [3], [3, 4], [3, 4, 5], [1, 2, 3, 4, 5, 6], [1, 2, 3, 4, 5, 6, 7], [0, 1, 2, 3, 4, 5, 6, 7, 8], [0, 1, 2, 3, 4, 5, 6, 7, 8, 9]] (by kernel_rfl) 9 (by decide) (by kernel_rfl) [.is (.slice pl nl cl), .is (.pointer (some ⟨b, 0, none⟩)), .allL wr0.heap.size (V.map txt), .is (.pointer (some ⟨r, 0, none⟩)), .is (.pointer (some ⟨r, 0, none⟩)), .is (.pointer (some ⟨r, 0, none⟩)), .is (.slice pr V.length cr), .keptL wr0.heap.size (V.map txt) (.slice pr V.length cr), .oneL wr0.heap.size (V.map txt) (.slice pr V.length cr)] 158 rfl (by kernel_rfl) ?_ ?_
            · intro q a1 W1 i hi hnq hd hG K hK
              have hlt : i < 9 := hi
              have hc : i = 0 ∨ i = 1 ∨ i = 2 ∨ i = 3 ∨ i = 4 ∨ i = 5 ∨ i = 6 ∨ i = 7 ∨ i = 8 := by omega
              rcases hc with rfl | rfl | rfl | rfl | rfl | rfl | rfl | rfl | rfl
              · have e15 := hG.yet 158 (by kernel_rfl) 15 10 (by decide) rfl (fun h => hnq (hG.closed 10 h _ rfl ⟨0, .phase⟩ (by simp) rfl))
                refine op_do rfl (wanted_none rfl) hK (fun K' hK' => ?_)
                unfold Oper.wp
                go_simp
                exact hK' _ _ (Fr.refl _ _) rfl
              · have e8 := hG.old 8 (by kernel_rfl)
                refine op_do rfl (wanted_none rfl) hK (fun K' hK' => ?_)
                unfold Oper.wp
                go_simp
                exact hK' _ _ (Fr.refl _ _) rfl
              · have e108 := hG.val (v := .pointer (some ⟨b, 0, none⟩)) 1 108 (hd _ rfl ⟨1, .data⟩ (by simp) rfl) rfl rfl
                refine op_do rfl (wanted_none rfl) hK (fun K' hK' => ?_)
                unfold Oper.wp
                go_simp
                refine (all_all W1 b vl2 (V.map txt) most B (HII.out.1.grow hG.grown).lk.l (by rw [List.length_map]; exact HV.out)).mono ?_
                rintro e W2 ⟨kb, vx, rfl, hA, n1, n2, f⟩
                exact hK' _ _ f ⟨kb, vx, rfl, hA, Nat.le_trans hG.grown.size n1, fun g hg => Nat.le_trans hG.grown.size (n2 g hg)⟩
              · have e10 := hG.old 10 (by kernel_rfl)
                refine op_do rfl (wanted_none rfl) hK (fun K' hK' => ?_)
                unfold Oper.wp
                go_simp
                exact hK' _ _ (Fr.refl _ _) rfl
              · have e110 := hG.val (v := .pointer (some ⟨r, 0, none⟩)) 3 110 (hd _ rfl ⟨3, .data⟩ (by simp) rfl) rfl rfl
                refine op_do rfl (wanted_none rfl) hK (fun K' hK' => ?_)
                unfold Oper.wp
                go_simp
                exact hK' _ _ (Fr.refl _ _) rfl
              · have e111 := hG.val (v := .pointer (some ⟨r, 0, none⟩)) 4 111 (hd _ rfl ⟨4, .data⟩ (by simp) rfl) rfl rfl
                refine op_do rfl (wanted_none rfl) hK (fun K' hK' => ?_)
                unfold Oper.wp
                go_simp
                exact hK' _ _ (Fr.refl _ _) rfl
              · have e112 := hG.val (v := .pointer (some ⟨r, 0, none⟩)) 5 112 (hd _ rfl ⟨5, .data⟩ (by simp) rfl) rfl rfl
                have cr0 := (HII.out.1.grow hG.grown).lk.r.books.1
                refine op_do rfl (wanted_none rfl) hK (fun K' hK' => ?_)
                unfold Oper.wp
                go_simp
                exact hK' _ _ (Fr.refl _ _) rfl
              · obtain ⟨u2, e109, s2⟩ := hG.get 2 109 (hd _ rfl ⟨2, .data⟩ (by simp) rfl) rfl
                have e113 := hG.val (v := .slice pr V.length cr) 6 113 (hd _ rfl ⟨6, .data⟩ (by simp) rfl) rfl rfl
                obtain ⟨kb, vx, rfl, hA, hn8⟩ := s2
                refine op_do rfl (wanted_none rfl) hK (fun K' hK' => ?_)
                unfold Oper.wp
                go_simp
                exact hK' _ _ (Fr.refl _ _) ⟨kb, vx, rfl, hA, hn8⟩
              · obtain ⟨u7, e114, s7⟩ := hG.get 7 114 (hd _ rfl ⟨7, .data⟩ (by simp) rfl) rfl
                obtain ⟨kb, vx, rfl, hA, hn8⟩ := s7
                refine op_do rfl (wanted_none rfl) hK (fun K' hK' => ?_)
                unfold Oper.wp
                go_simp
                exact hK' _ _ ((Fr.refl _ _).alloc _) ⟨kb, vx, _, rfl, new_list W1 [.func (.func 32) #[] #[.pointer (some ⟨kb, 0, none⟩)], .slice pr V.length cr] 46 _ rfl, by simp, AllHeld.fr0 hA ((Fr.refl _ _).alloc _), hn8⟩
            · intro q a1 W1 hq hG
              have f1 := hG.grown
              obtain ⟨vs, hv, rfl⟩ := hG.front 158 rfl (by kernel_rfl) (by decide) hq [(0, 107), (1, 108), (2, 109), (3, 110), (4, 111), (5, 112), (6, 113), (7, 114), (8, 115)] (by kernel_rfl)
              clear hG hq
              have r0 : vs 0 = .slice pl nl cl := hv 0 107 (by decide) rfl
              have r1 : vs 1 = .pointer (some ⟨b, 0, none⟩) := hv 1 108 (by decide) rfl
              have r2 := hv 2 109 (by decide) rfl
              have r3 : vs 3 = .pointer (some ⟨r, 0, none⟩) := hv 3 110 (by decide) rfl
              have r4 : vs 4 = .pointer (some ⟨r, 0, none⟩) := hv 4 111 (by decide) rfl
              have r5 : vs 5 = .pointer (some ⟨r, 0, none⟩) := hv 5 112 (by decide) rfl
              have r6 : vs 6 = .slice pr V.length cr := hv 6 113 (by decide) rfl
              have r7 := hv 7 114 (by decide) rfl
              have r8 := hv 8 115 (by decide) rfl
              simp only [List.drop_succ_cons, List.drop_zero, lay, List.foldl_cons, List.foldl_nil, r0, r1, r3, r4, r5, r6]
              simp only [List.setIfInBounds_toArray, List.set_cons_zero, List.set_cons_succ]
              clear hv r0 r1 r3 r4 r5 r6
              generalize vs 2 = x2 at *
              generalize vs 7 = x7 at *
              generalize vs 8 = x8 at *
              clear vs
              obtain ⟨kb, vx, g8, rfl, hc8, hg8, hh, hn8, hm8⟩ := r8
              have HOW := Lib.hid (And.intro (own_fr HROW.out.1 f1 (by simp)) hc8)
              have HFRE := Lib.hid (HII.out.1.fresh f1 hh hn8 hm8 HV.out)
              have HMO := Lib.hid (fun (lv' : Value) (w4 : World) (happ : Appended W1 46 2 (.slice pl nl cl) (nl + 1) (κs.flatMap encKE ++ encKE (⟨kb, vx, V, pr, cr⟩ : KE)) lv' w4) => And.intro (HII.out.1.more (κ := (⟨kb, vx, V, pr, cr⟩ : KE)) f1 HFRE.out.1 HFRE.out.2 (by rw [← HNL.out]; exact happ)) (HII.out.2.fr (S := (Value.slice pl nl cl).ownBlock.toList) ((f1.mono (by simp)).trans happ.fr (fun x hx => .inl hx)) (fun hm => own_notin HII.out.1.row HII.out.2.1 (by decide) hm) (by simp [Value.ownBlock])))
              clear r2 r7 hc8 hg8 hh hn8 hm8 f1
              go_wp2_with (at_builtin; go_must (refine wpList_app _ rfl _ _ 37 rfl 46 (.agg #[.nilFunc, .slice none 0 0]) 2 32 Tryd.underlying37 infoKE rfl (by decide) (.slice pl nl cl) nl (κs.flatMap encKE) rfl HOW.out.1 ⟨g8, 0, none⟩ 1 1 (encKE (⟨kb, vx, V, pr, cr⟩ : KE)) rfl rfl HOW.out.2 (encKE_one _) (by have := HROW.out.2; unfold maxLen; omega) (by have := HROW.out.2; omega) ?_); intro v1 w4 happ; obtain ⟨p1, c1, rfl⟩ := own_form happ.own; have HB4 := Lib.hid (HMO.out _ _ happ); clear happ; have HT4 := Lib.hid (HN.out.2.2.2.fr HB4.out.1.2.1 (by simp)); have z0 := (HB4.out.1.2.1.cell hgS (by simp)).trans hz0; have z1 := (HB4.out.1.2.1.cell (a := ⟨gS, oS + k * 3 + 1, none⟩) hgS (by simp)).trans hz1; have z2 := (HB4.out.1.2.1.cell (a := ⟨gS, oS + k * 3 + 2, none⟩) hgS (by simp)).trans hz2)
              have HD := Lib.hid (does_any w4 b r j k most vl2 (.slice pr V.length cr) V B s.kd s.sv s.si HB4.out.1.1 HII.out.1.fine (by omega) HM.out.2.1 HM.out.2.2.1 HT4.out HX.out ⟨HZ0.out.1, HZ0.out.2, fun hm => by have h0 := HN.out.2.2.2.lt; have h1 := HII.out.1.low.2.2.1 0 (by simpa using hm); omega⟩)
              (with_reducible refine (HD.out).mono ?_)
              rintro e w6 ⟨rfl, vl3, vr3, V3, B3, lk3, fn3, m1, m2, f6⟩
              have HL6 := Lib.hid (show LI w b r j (k + 1) most vl3 vr3 (.slice p1 (nl + 1) c1) V3 B3 (κs ++ [(⟨kb, vx, V, pr, cr⟩ : KE)]) w6 ∧ LnS.LineAt w6 z (.slice none 0 0) [] most ⟨0, 0, 0, 0⟩ from ⟨LI.step2 HB4.out.1.2.1 HB4.out.1.1 HB4.out.1.2.2.1 ⟨HII.out.1.low.1, HII.out.1.low.2.1, HII.out.1.low.2.2.1, HB4.out.1.2.2.2.1⟩ (by have := HII.out.1.len; rw [List.length_append, List.length_singleton]; omega) HB4.out.1.2.2.2.2 lk3 fn3 m1 f6, HB4.out.2.fr f6 (fun hm => by
                rcases List.mem_cons.1 hm with q | hm
                · have := HZ.out.1; omega
                · rcases List.mem_cons.1 hm with q | hm
                  · exact Blk.ne HB4.out.2.1 HB4.out.1.1.r.1 (by decide) q
                  · exact own_notin HB4.out.1.1.l.2 HB4.out.2.1 (by decide) hm) (by simp [Value.ownBlock])⟩)
              have HBk := Lib.hid (booksOk_any w6 b r vl3 vr3 V3 most B3 j (k + 1) lk3 fn3.bk (by omega) (by omega) (by have := fn3.len; have := HM.out.2.2.1; omega) fn3.sum)
              clear lk3 fn3 m1 m2 f6 z0 z1 z2 HD
              go_wp2_with fail
              (with_reducible refine (HBk.out).mono ?_)
              rintro e w7 ⟨rfl, f7⟩
              have HL7 := Lib.hid (And.intro (HL6.out.1.grow f7) (HL6.out.2.fr f7 (by simp) (by simp)))
              clear f7 HBk
              go_wp2_with fail
              exact ⟨⟨k + 1, _, _, _, _, _, by go_num, by omega, HL7.out.1, HL7.out.2⟩, by simp [intOf]; omega⟩
          · have z0 := (HII.out.1.fr.cell hgS (by simp)).trans hz0
            have z1 := (HII.out.1.fr.cell (a := ⟨gS, oS + k * 3 + 1, none⟩) hgS (by simp)).trans hz1
            have z2 := (HII.out.1.fr.cell (a := ⟨gS, oS + k * 3 + 2, none⟩) hgS (by simp)).trans hz2
            have HD := Lib.hid (does_any wr0 b r j k most vl2 vr2 V B s.kd s.sv s.si HII.out.1.lk HII.out.1.fine (by omega) HM.out.2.1 HM.out.2.2.1 hT0 x1 ⟨HZ0.out.1, HZ0.out.2, fun hm => by have h0 := HN.out.2.2.2.lt; have h1 := HII.out.1.low.2.2.1 0 (by simpa using hm); omega⟩)
            clear hz0 hz1 hz2 hgS hT0 x1
            go_wp2_with fail
            (with_reducible refine (HD.out).mono ?_)
            rintro e w6 ⟨rfl, vl3, vr3, V3, B3, lk3, fn3, m1, m2, f6⟩
            have HL6 := Lib.hid (show LI w b r j (k + 1) most vl3 vr3 (.slice pl nl cl) V3 B3 κs w6 ∧ LnS.LineAt w6 z (.slice none 0 0) [] most ⟨0, 0, 0, 0⟩ from ⟨HII.out.1.step lk3 fn3 m1 f6, HII.out.2.fr f6 (fun hm => by
              rcases List.mem_cons.1 hm with q | hm
              · have := HZ.out.1; omega
              · rcases List.mem_cons.1 hm with q | hm
                · exact Blk.ne HII.out.2.1 HII.out.1.lk.r.1 (by decide) q
                · exact own_notin HII.out.1.lk.l.2 HII.out.2.1 (by decide) hm) (by simp [Value.ownBlock])⟩)
            have HBk := Lib.hid (booksOk_any w6 b r vl3 vr3 V3 most B3 j (k + 1) lk3 fn3.bk (by omega) (by omega) (by have := fn3.len; have := HM.out.2.2.1; omega) fn3.sum)
            clear lk3 fn3 m1 m2 f6 z0 z1 z2 HD
            go_wp2_with fail
            (with_reducible refine (HBk.out).mono ?_)
            rintro e w7 ⟨rfl, f7⟩
            have HL7 := Lib.hid (And.intro (HL6.out.1.grow f7) (HL6.out.2.fr f7 (by simp) (by simp)))
            clear f7 HBk
            go_wp2_with fail
            exact ⟨⟨k + 1, _, _, _, _, _, by go_num, by omega, HL7.out.1, HL7.out.2⟩, by simp [intOf]; omega⟩
        · obtain rfl : N = k := by omega
          have hnl6 : nl ≤ 1048576 := by have := HII.out.1.len; rw [← HNL.out] at this; omega
          go_wp2_with fail
          go_loopw [17] (fun i wr => ∃ jj : Nat, i = .int .i64 (jj : Nat) ∧ jj ≤ nl ∧ Fr [] wr0 wr) (fun i _ => nl - (intOf i).toNat)
          case atStart => exact ⟨0, rfl, Nat.zero_le _, Fr.refl _ _⟩
          case round =>
            obtain ⟨jj, rfl, hjj, hf⟩ := hrel
            obtain ⟨wi2, hwi2⟩ : ∃ wi2 : World, wi2 = wr := ⟨_, rfl⟩
            rw [← hwi2] at hf ⊢
            clear hwi2
            have HF := Lib.hid hf
            by_cases h2 : jj < nl
            · obtain ⟨κ, hκ⟩ : ∃ κ, κs[jj]? = some κ := ⟨_, List.getElem?_eq_getElem (by have := HNL.out; omega)⟩
              have hrow := RdF.of_own (by decide) (own_fr HII.out.1.row hf (by simp)) (by have := HNL.out; unfold maxLen; omega)
              obtain ⟨gK, oK, cK, hv, -, -, hc⟩ := RdF.at encKE encKE_len hrow hκ
              rw [← HNL.out] at hv
              obtain ⟨rfl, -, -⟩ := Value.slice.inj hv
              have z0 : wi2.cell? ⟨gK, oK + jj * 2, none⟩ = some (.func (.func 32) #[] #[.pointer (some ⟨κ.bl, 0, none⟩)]) := by have := hc 0 _ rfl; simpa [Nat.add_assoc] using this
              have z1 : wi2.cell? ⟨gK, oK + jj * 2 + 1, none⟩ = some (.slice κ.p κ.V.length κ.c) := by have := hc 1 _ rfl; simpa [Nat.add_assoc] using this
              have HC := Lib.hid (((HII.out.1.kept κ (List.mem_of_getElem? hκ)).1.fr hf (by simp)).tells (HN.out.2.2.2.fr (HII.out.1.fr.trans hf (by simp)) (by simp)))
              have l0 : (0 : Int) ≤ (jj : Int) := by omega
              have l1 : (jj : Int) < (nl : Int) := by omega
              clear hrow hv hc hκ hf
              go_wp2_with fail
              (with_reducible refine (HC.out).mono ?_)
              rintro e w5b ⟨rfl, f5⟩
              have HF5 := Lib.hid f5
              clear f5 HC z0 z1
              go_wp2_with fail
              exact ⟨⟨jj + 1, by go_num, by omega, HF.out.trans HF5.out (by simp)⟩, by simp [intOf]; omega⟩
            · obtain rfl : nl = jj := by omega
              obtain ⟨pr, cr, rfl, -, -, -⟩ := HII.out.1.lk.r.form
              have HV := Lib.hid (show V.length ≤ 64 by have := HII.out.1.fine.len; have := HM.out.2.2.1; omega)
              clear hf
              go_wp2_with fail
              refine region_grow (by kernel_rfl) (by kernel_rfl) [.is (.pointer (some ⟨b, 0, none⟩)), .allS (V.map txt), .is (.pointer (some ⟨r, 0, none⟩)), .is (.pointer (some ⟨r, 0, none⟩)), .is (.pointer (some ⟨r, 0, none⟩)), .is (.slice pr V.length cr), .keptS (V.map txt) (.slice pr V.length cr), .is (.bool true), .is (.bool true), .is (.pointer (some ⟨z, 0, none⟩)), .is (.int .i64 0), .is (.bool true), .is (.bool true), .is (.bool true)] 158 rfl (by kernel_rfl) [(0, 145), (1, 146), (2, 147), (3, 148), (4, 149), (5, 150), (6, 151), (7, 152), (8, 153), (9, 154), (10, 155), (11, 156), (12, 157), (13, 6)] (by kernel_rfl) ?_ ?_
              · intro q a1 W1 i hi hnq hd hG K hK
                have hlt : i < 14 := hi
                have hc : i = 0 ∨ i = 1 ∨ i = 2 ∨ i = 3 ∨ i = 4 ∨ i = 5 ∨ i = 6 ∨ i = 7 ∨ i = 8 ∨ i = 9 ∨ i = 10 ∨ i = 11 ∨ i = 12 ∨ i = 13 := by omega
                rcases hc with rfl | rfl | rfl | rfl | rfl | rfl | rfl | rfl | rfl | rfl | rfl | rfl | rfl | rfl
                · have e8 := hG.old 8 (by kernel_rfl)
                  refine op_do rfl (wanted_none rfl) hK (fun K' hK' => ?_)
                  unfold Oper.wp
                  go_simp
                  exact hK' _ _ (Fr.refl _ _) rfl
                · have e145 := hG.val (v := .pointer (some ⟨b, 0, none⟩)) 0 145 (hd _ rfl ⟨0, .data⟩ (by simp) rfl) rfl rfl
                  refine op_do rfl (wanted_none rfl) hK (fun K' hK' => ?_)
                  unfold Oper.wp
                  go_simp
                  refine (all_all W1 b vl2 (V.map txt) most B ((HII.out.1.grow HF.out).grow hG.grown).lk.l (by rw [List.length_map]; exact HV.out)).mono ?_
                  rintro e W2 ⟨kb, vx, rfl, hA, -, -, f⟩
                  exact hK' _ _ f ⟨kb, vx, rfl, hA⟩
                · have e10 := hG.old 10 (by kernel_rfl)
                  refine op_do rfl (wanted_none rfl) hK (fun K' hK' => ?_)
                  unfold Oper.wp
                  go_simp
                  exact hK' _ _ (Fr.refl _ _) rfl
                · have e147 := hG.val (v := .pointer (some ⟨r, 0, none⟩)) 2 147 (hd _ rfl ⟨2, .data⟩ (by simp) rfl) rfl rfl
                  refine op_do rfl (wanted_none rfl) hK (fun K' hK' => ?_)
                  unfold Oper.wp
                  go_simp
                  exact hK' _ _ (Fr.refl _ _) rfl
                · have e148 := hG.val (v := .pointer (some ⟨r, 0, none⟩)) 3 148 (hd _ rfl ⟨3, .data⟩ (by simp) rfl) rfl rfl
                  refine op_do rfl (wanted_none rfl) hK (fun K' hK' => ?_)
                  unfold Oper.wp
                  go_simp
                  exact hK' _ _ (Fr.refl _ _) rfl
                · have e149 := hG.val (v := .pointer (some ⟨r, 0, none⟩)) 4 149 (hd _ rfl ⟨4, .data⟩ (by simp) rfl) rfl rfl
                  have c0 := ((HII.out.1.grow HF.out).grow hG.grown).lk.r.books.1
                  refine op_do rfl (wanted_none rfl) hK (fun K' hK' => ?_)
                  unfold Oper.wp
                  go_simp
                  exact hK' _ _ (Fr.refl _ _) rfl
                · obtain ⟨u1, e146, s1⟩ := hG.get 1 146 (hd _ rfl ⟨1, .data⟩ (by simp) rfl) rfl
                  have e150 := hG.val (v := .slice pr V.length cr) 5 150 (hd _ rfl ⟨5, .data⟩ (by simp) rfl) rfl rfl
                  obtain ⟨kb, vx, rfl, hA⟩ := s1
                  refine op_do rfl (wanted_none rfl) hK (fun K' hK' => ?_)
                  unfold Oper.wp
                  go_simp
                  exact hK' _ _ (Fr.refl _ _) ⟨kb, vx, rfl, hA⟩
                · obtain ⟨u6, e151, s6⟩ := hG.get 6 151 (hd _ rfl ⟨6, .data⟩ (by simp) rfl) rfl
                  obtain ⟨kb, vx, rfl, hA⟩ := s6
                  refine op_do rfl (wanted_none rfl) hK (fun K' hK' => ?_)
                  unfold Oper.wp
                  go_simp
                  refine (tells_any W1 kb vx V pr V.length cr hA (by have := HV.out; omega) HII.out.1.fine.num (HN.out.2.2.2.fr ((HII.out.1.grow HF.out).grow hG.grown).fr (by simp)) (((HII.out.1.grow HF.out).grow hG.grown).lk.r.rd HV.out) rfl).mono ?_
                  rintro e W2 ⟨rfl, f⟩
                  exact hK' _ _ f rfl
                · have e152 := hG.val (v := .bool true) 7 152 (hd _ rfl ⟨7, .data⟩ (by simp) rfl) rfl rfl
                  refine op_do rfl (wanted_none rfl) hK (fun K' hK' => ?_)
                  unfold Oper.wp
                  go_simp
                  exact hK' _ _ (Fr.refl _ _) rfl
                · have e12 := hG.old 12 (by kernel_rfl)
                  have eg := hG.val (v := .bool true) 8 153 (hd _ rfl ⟨8, .guard⟩ (by simp) rfl) rfl rfl
                  refine op_do rfl (by simp [Region.wanted, yielded, eg]) hK (fun K' hK' => ?_)
                  unfold Oper.wp
                  go_simp
                  exact hK' _ _ (Fr.refl _ _) rfl
                · have e154 := hG.val (v := .pointer (some ⟨z, 0, none⟩)) 9 154 (hd _ rfl ⟨9, .data⟩ (by simp) rfl) rfl rfl
                  have eg := hG.val (v := .bool true) 8 153 (hd _ rfl ⟨8, .guard⟩ (by simp) rfl) rfl rfl
                  refine op_do rfl (by simp [Region.wanted, yielded, eg]) hK (fun K' hK' => ?_)
                  unfold Oper.wp
                  go_simp
                  refine (LnS.len_any W1 z _ [] most _ (HII.out.2.fr (HF.out.trans hG.grown (by simp)) (by simp) (by simp))).mono ?_
                  rintro e W2 ⟨rfl, rfl⟩
                  exact hK' _ _ (Fr.refl _ _) rfl
                · have e155 := hG.val (v := .int .i64 0) 10 155 (hd _ rfl ⟨10, .data⟩ (by simp) rfl) rfl rfl
                  have eg := hG.val (v := .bool true) 8 153 (hd _ rfl ⟨8, .guard⟩ (by simp) rfl) rfl rfl
                  refine op_do rfl (by simp [Region.wanted, yielded, eg]) hK (fun K' hK' => ?_)
                  unfold Oper.wp
                  go_simp
                  exact hK' _ _ (Fr.refl _ _) rfl
                · have e153 := hG.val (v := .bool true) 8 153 (hd _ rfl ⟨8, .data⟩ (by simp) rfl) rfl rfl
                  have e156 := hG.val (v := .bool true) 11 156 (hd _ rfl ⟨11, .data⟩ (by simp) rfl) rfl rfl
                  refine op_do rfl (wanted_none rfl) hK (fun K' hK' => ?_)
                  unfold Oper.wp
                  go_simp
                  exact hK' _ _ (Fr.refl _ _) rfl
                · have e157 := hG.val (v := .bool true) 12 157 (hd _ rfl ⟨12, .data⟩ (by simp) rfl) rfl rfl
                  refine op_do rfl (wanted_none rfl) hK (fun K' hK' => ?_)
                  unfold Oper.wp
                  go_simp
                  exact hK' _ _ (Fr.refl _ _) rfl
              · intro vs W1 f1 hv
                have r0 : vs 0 = .pointer (some ⟨b, 0, none⟩) := hv 0 145 (by decide) rfl
                have r1 := hv 1 146 (by decide) rfl
                have r2 : vs 2 = .pointer (some ⟨r, 0, none⟩) := hv 2 147 (by decide) rfl
                have r3 : vs 3 = .pointer (some ⟨r, 0, none⟩) := hv 3 148 (by decide) rfl
                have r4 : vs 4 = .pointer (some ⟨r, 0, none⟩) := hv 4 149 (by decide) rfl
                have r5 : vs 5 = .slice pr V.length cr := hv 5 150 (by decide) rfl
                have r6 := hv 6 151 (by decide) rfl
                have r7 : vs 7 = .bool true := hv 7 152 (by decide) rfl
                have r8 : vs 8 = .bool true := hv 8 153 (by decide) rfl
                have r9 : vs 9 = .pointer (some ⟨z, 0, none⟩) := hv 9 154 (by decide) rfl
                have r10 : vs 10 = .int .i64 0 := hv 10 155 (by decide) rfl
                have r11 : vs 11 = .bool true := hv 11 156 (by decide) rfl
                have r12 : vs 12 = .bool true := hv 12 157 (by decide) rfl
                have r13 : vs 13 = .bool true := hv 13 6 (by decide) rfl
                simp only [lay, List.foldl_cons, List.foldl_nil, r0, r2, r3, r4, r5, r7, r8, r9, r10, r11, r12, r13]
                simp only [List.setIfInBounds_toArray, List.set_cons_zero, List.set_cons_succ]
                clear hv r0 r2 r3 r4 r5 r7 r8 r9 r10 r11 r12 r13
                generalize vs 1 = x1 at *
                generalize vs 6 = x6 at *
                clear r1 r6
                go_wp2_with fail
                exact bodyPost_ret (v := .bool true) (by simp [results, Tryd.results3, go_sem]) rfl ⟨rfl, (HII.out.1.fr.trans HF.out (by simp)).trans f1 (by simp)⟩
end Go.Proofs.YtiimmndhinoaiaaDoor
