/-
  Script, the document: bytes as a text. Printed by genRb.py.
-/
import Derived.Test.YtbpgpjibljgiiaaDoorRefM
namespace Go.Proofs.YtbpgpjibljgiiaaDoor
open Go.RowKit
set_option linter.unusedVariables false
set_option linter.unusedSimpArgs false
attribute [local go_sem] Oper.semAt_some
/-- A slice of two bytes, in memory of its own. -/
def Stab.slot2 (y z : Int) : Stab := ⟨fun u W => ∃ g, u = .slice (some ⟨g, 0, none⟩) 2 2 ∧ Blk W g #[.int .u8 y, .int .u8 z] 5, fun _ _ _ f ⟨g, h1, h2⟩ => ⟨g, h1, f.blk h2 (by simp)⟩⟩
namespace Sc
/-- A hexadecimal digit. -/
def digR (n : Int) : Int := if n < 10 then 48 + n else 97 + n - 10
set_option maxRecDepth 100000 in
theorem digit_any (w : World) (n : Int) (h0 : 0 ≤ n) (h1 : n < 16) : Calls Tryd.prog 62 #[.int .u8 n] w fun e w' => e = .returned (.int .u8 (digR n)) ∧ w' = w := by
  by_cases h : n < 10
  · have d1 : decide (n < 10) = true := decide_eq_true h
    have q1 : (48 + n) % 256 = 48 + n := by omega
    rw [show digR n = 48 + n from if_pos h]
    clear h
    go_enter Tryd.func62, Tryd.ntmps62
    go_wp2
    go_ret
    exact ⟨rfl, rfl⟩
  · have d1 : decide (n < 10) = false := decide_eq_false h
    have q1 : (97 + n - 10) % 256 = 97 + n - 10 := by omega
    have q2 : IntKind.u8.wrap (97 + n) = 97 + n := by rw [IntKind.wrap_u8]; omega
    have q3 : (97 + n) % 256 = 97 + n := by omega
    have q4 : IntKind.u8.wrap (97 + n - 10) = 97 + n - 10 := by rw [IntKind.wrap_u8]; omega
    rw [show digR n = 97 + n - 10 from if_neg h]
    clear h
    go_enter Tryd.func62, Tryd.ntmps62
    go_wp2
    go_ret
    exact ⟨rfl, rfl⟩
theorem own_new (w : World) (x : Value) (e : TypeId) : (w.alloc (.cells #[x] e)).ownsRow 0 e 1 (.slice (some ⟨w.heap.size, 0, none⟩) 1 1) 1 [x] := by
  refine ⟨rfl, .inr ⟨w.heap.size, 1, #[x], rfl, Nat.zero_le _, Blk.new _ _ _, Nat.le_refl _, by decide, rfl, rfl⟩⟩
/-- The digits of bytes. -/
def hexN' (l : List Int) : List Int := l.flatMap fun z => [digR (z / 16), digR (z % 16)]
def hexN (l : List Int) : List Int := if l = [] then [45] else hexN' l
theorem hexN'_app (l : List Int) (z : Int) : hexN' (l ++ [z]) = hexN' l ++ [digR (z / 16), digR (z % 16)] := by simp [hexN']
theorem hexN'_len (l : List Int) : (hexN' l).length = 2 * l.length := by
  induction l with
  | nil => rfl
  | cons z l ih => simp [hexN'] at ih ⊢; omega
set_option maxRecDepth 100000 in
set_option maxHeartbeats 4000000 in
theorem hex_any (w : World) (bv : Value) (l : List Int) (hb : Rd w bv (u8s l)) (hby : Byt l) (hll : l.length ≤ 4294967296) :
    Calls Tryd.prog 38 #[bv] w fun e w' => ∃ v, e = .returned v ∧ BytV w' w.heap.size v (hexN l) ∧ Fr [] w w' := by
  obtain ⟨p, c, rfl, hc, h0⟩ := hb
  have hlu : (u8s l).length = l.length := by simp [u8s]
  rw [hlu] at h0 hc ⊢
  by_cases hz : l = []
  · subst hz
    rw [show hexN [] = [45] from rfl]
    clear h0 hby hlu hll hc
    go_enter Tryd.func38, Tryd.ntmps38
    go_wp2
    go_ret
    refine ⟨_, rfl, ⟨?_, fun g hg => ?_⟩, (Fr.refl _ _).alloc _⟩
    · exact own_new w (.int .u8 45) 5
    · simp [Value.ownBlock] at hg; omega
  · have hpos : 0 < l.length := List.length_pos_iff.2 hz
    obtain ⟨g, o, rfl, hcells⟩ := h0.resolve_left (by omega)
    obtain ⟨R, hR⟩ : ∃ R, R = hexN l := ⟨_, rfl⟩
    rw [← hR]
    have HR := Lib.hid (show R = hexN' l by rw [hR]; exact if_neg hz)
    have HCL := Lib.hid (And.intro hcells hby)
    obtain ⟨N, hN⟩ : ∃ N, N = l.length := ⟨_, rfl⟩
    rw [← hN] at hc ⊢
    have HN := Lib.hid hN
    have k0 : ((N : Int) == 0) = false := by rw [beq_eq_false_iff_ne]; omega
    have k1 : (N : Int) ≤ 4294967296 := by omega
    have k2 : (N : Int) ≤ (c : Int) := by omega
    have HPC := Lib.hid (And.intro hpos hll)
    clear h0 hcells hby hz hR hN hlu hpos hll hc
    go_enter Tryd.func38, Tryd.ntmps38
    go_wp2_with fail
    go_loopw [3, 4] (fun v iv wr => ∃ i : Nat, iv = .int .i64 i ∧ i ≤ l.length ∧ BytV wr w.heap.size v (hexN' (l.take i)) ∧ Fr [] w wr) (fun _ iv _ => l.length - (match iv with | .int _ q => q.toNat | _ => 0))
    case atStart => exact ⟨0, rfl, Nat.zero_le _, BytV.nil _ _, Fr.refl _ _⟩
    case round =>
      obtain ⟨i, rfl, hi, hv, hf⟩ := hrel
      obtain ⟨wi, hwi⟩ : ∃ wi : World, wi = wr := ⟨_, rfl⟩
      rw [← hwi] at hf hv ⊢
      clear hwi
      obtain ⟨pv, cv, rfl⟩ := hv.form
      have hi0 : (0 : Int) ≤ (i : Int) := by omega
      have hi4 : (i : Int) ≤ 4294967296 := by have := HPC.out.2; omega
      obtain ⟨L, hL⟩ : ∃ L, hexN' (l.take i) = L := ⟨_, rfl⟩
      rw [hL] at hv ⊢
      have HL := Lib.hid hL
      have hlen : L.length ≤ 8589934592 := by rw [← hL, hexN'_len, List.length_take]; have := HPC.out.2; omega
      have HVI := Lib.hid hi
      obtain ⟨n, hn⟩ : ∃ n, n = L.length := ⟨_, rfl⟩
      have HNN := Lib.hid hn
      have HLN := Lib.hid (show n ≤ 8589934592 by rw [hn]; exact hlen)
      have HV := Lib.hid (show BytV wi w.heap.size (.slice pv n cv) L ∧ Fr [] w wi ∧ True from ⟨by rw [hn]; exact hv, hf, trivial⟩)
      have HV1 := Lib.hid (show wi.ownsRow 0 5 1 (.slice pv n cv) n (u8s L) from by rw [hn]; exact hv.1)
      rw [← hn]
      clear hv hf hlen hi hL hn
      by_cases hlt : i < l.length
      · have d1 : (i : Int) < (N : Int) := by rw [HN.out]; omega
        obtain ⟨z, hz⟩ : ∃ z, z = l[i] := ⟨_, rfl⟩
        have HLT := Lib.hid (show ∃ h : i < l.length, l[i] = z from ⟨hlt, hz.symm⟩)
        have hzr := HCL.out.2 z (by rw [hz]; exact List.getElem_mem hlt)
        have hcell := HCL.out.1 i (.int .u8 z) (by rw [hz]; simp [u8s, hlt])
        have HC := Lib.hid (And.intro ((HV.out.2.1.cell (World.block_lt_of_cell? w _ hcell) (by simp)).trans hcell) (show g < wi.heap.size from Nat.lt_of_lt_of_le (World.block_lt_of_cell? w _ hcell) HV.out.2.1.size))
        have z0 : 0 ≤ z := hzr.1
        have z1 : z < 256 := hzr.2
        have q1 : IntKind.u8.wrap (z.tdiv 16) = z / 16 := by rw [Int.tdiv_eq_ediv_of_nonneg z0, IntKind.wrap_u8]; omega
        have q2 : z.tmod 16 = z % 16 := Int.tmod_eq_emod_of_nonneg z0
        clear hlt hz hzr hcell
        go_wp2_with fail
        refine region_tail (by kernel_rfl) (by kernel_rfl) [[], [], [], [1, 2], [1, 2, 3], [1, 2, 3, 4], [1, 2, 3, 4, 5], [], [], [7, 8], [7, 8, 9], [7, 8, 9, 10], [1, 2, 3, 4, 5, 6, 7, 8, 9, 10, 11], [1, 2, 3, 4, 5, 6, 7, 8, 9, 10, 11, 12], [0, 1, 2, 3, 4, 5, 6, 7, 8, 9, 10, 11, 12, 13], [0, 1, 2, 3, 4, 5, 6, 7, 8, 9, 10, 11, 12, 13, 14]] (by kernel_rfl) 14 (by decide) (by kernel_rfl) [.is (.slice pv n cv), .is (.slice (some ⟨g, o, none⟩) N c), .is (.int .i64 i), .is (.pointer (some ⟨g, o + i, none⟩)), .is (.int .u8 z), .is (.int .u8 (z / 16)), .is (.int .u8 (digR (z / 16))), .is (.slice (some ⟨g, o, none⟩) N c), .is (.int .i64 i), .is (.pointer (some ⟨g, o + i, none⟩)), .is (.int .u8 z), .is (.int .u8 (z % 16)), .is (.int .u8 (digR (z % 16))), .slot2 (digR (z / 16)) (digR (z % 16))] 31 rfl (by kernel_rfl) ?_ ?_
        · intro q a1 W1 i hi hnq hd hG K hK
          have hlt : i < 14 := hi
          have hc : i = 0 ∨ i = 1 ∨ i = 2 ∨ i = 3 ∨ i = 4 ∨ i = 5 ∨ i = 6 ∨ i = 7 ∨ i = 8 ∨ i = 9 ∨ i = 10 ∨ i = 11 ∨ i = 12 ∨ i = 13 := by omega
          rcases hc with rfl | rfl | rfl | rfl | rfl | rfl | rfl | rfl | rfl | rfl | rfl | rfl | rfl | rfl
          · have e3 := hG.yet 31 (by kernel_rfl) 3 15 (by decide) rfl (fun h => hnq (hG.closed 15 h _ rfl ⟨0, .phase⟩ (by simp) rfl))
            refine op_do rfl (wanted_none rfl) hK (fun K' hK' => ?_)
            unfold Oper.wp
            go_simp
            exact hK' _ _ (Fr.refl _ _) rfl
          · have e0 := hG.old 0 (by kernel_rfl)
            refine op_do rfl (wanted_none rfl) hK (fun K' hK' => ?_)
            unfold Oper.wp
            go_simp
            exact hK' _ _ (Fr.refl _ _) rfl
          · have e4 := hG.old 4 (by kernel_rfl)
            refine op_do rfl (wanted_none rfl) hK (fun K' hK' => ?_)
            unfold Oper.wp
            go_simp
            exact hK' _ _ (Fr.refl _ _) rfl
          · have e16 := hG.val (v := .slice (some ⟨g, o, none⟩) N c) 1 16 (hd _ rfl ⟨1, .data⟩ (by simp) rfl) rfl rfl
            have e17 := hG.val (v := .int .i64 i) 2 17 (hd _ rfl ⟨2, .data⟩ (by simp) rfl) rfl rfl
            refine op_do rfl (wanted_none rfl) hK (fun K' hK' => ?_)
            unfold Oper.wp
            go_simp
            exact hK' _ _ (Fr.refl _ _) rfl
          · have e18 := hG.val (v := .pointer (some ⟨g, o + i, none⟩)) 3 18 (hd _ rfl ⟨3, .data⟩ (by simp) rfl) rfl rfl
            have cc := (hG.grown.cell (a := ⟨g, o + i, none⟩) HC.out.2 (by simp)).trans HC.out.1
            refine op_do rfl (wanted_none rfl) hK (fun K' hK' => ?_)
            unfold Oper.wp
            go_simp
            exact hK' _ _ (Fr.refl _ _) rfl
          · have e19 := hG.val (v := .int .u8 z) 4 19 (hd _ rfl ⟨4, .data⟩ (by simp) rfl) rfl rfl
            refine op_do rfl (wanted_none rfl) hK (fun K' hK' => ?_)
            unfold Oper.wp
            go_simp
            exact hK' _ _ (Fr.refl _ _) rfl
          · have e20 := hG.val (v := .int .u8 (z / 16)) 5 20 (hd _ rfl ⟨5, .data⟩ (by simp) rfl) rfl rfl
            refine op_do rfl (wanted_none rfl) hK (fun K' hK' => ?_)
            unfold Oper.wp
            go_simp
            refine (digit_any W1 (z / 16) (by omega) (by omega)).mono ?_
            rintro e W2 ⟨rfl, rfl⟩
            exact hK' _ _ (Fr.refl _ _) rfl
          · have e0 := hG.old 0 (by kernel_rfl)
            refine op_do rfl (wanted_none rfl) hK (fun K' hK' => ?_)
            unfold Oper.wp
            go_simp
            exact hK' _ _ (Fr.refl _ _) rfl
          · have e4 := hG.old 4 (by kernel_rfl)
            refine op_do rfl (wanted_none rfl) hK (fun K' hK' => ?_)
            unfold Oper.wp
            go_simp
            exact hK' _ _ (Fr.refl _ _) rfl
          · have e22 := hG.val (v := .slice (some ⟨g, o, none⟩) N c) 7 22 (hd _ rfl ⟨7, .data⟩ (by simp) rfl) rfl rfl
            have e23 := hG.val (v := .int .i64 i) 8 23 (hd _ rfl ⟨8, .data⟩ (by simp) rfl) rfl rfl
            refine op_do rfl (wanted_none rfl) hK (fun K' hK' => ?_)
            unfold Oper.wp
            go_simp
            exact hK' _ _ (Fr.refl _ _) rfl
          · have e24 := hG.val (v := .pointer (some ⟨g, o + i, none⟩)) 9 24 (hd _ rfl ⟨9, .data⟩ (by simp) rfl) rfl rfl
            have cc := (hG.grown.cell (a := ⟨g, o + i, none⟩) HC.out.2 (by simp)).trans HC.out.1
            refine op_do rfl (wanted_none rfl) hK (fun K' hK' => ?_)
            unfold Oper.wp
            go_simp
            exact hK' _ _ (Fr.refl _ _) rfl
          · have e25 := hG.val (v := .int .u8 z) 10 25 (hd _ rfl ⟨10, .data⟩ (by simp) rfl) rfl rfl
            refine op_do rfl (wanted_none rfl) hK (fun K' hK' => ?_)
            unfold Oper.wp
            go_simp
            exact hK' _ _ (Fr.refl _ _) rfl
          · have e26 := hG.val (v := .int .u8 (z % 16)) 11 26 (hd _ rfl ⟨11, .data⟩ (by simp) rfl) rfl rfl
            refine op_do rfl (wanted_none rfl) hK (fun K' hK' => ?_)
            unfold Oper.wp
            go_simp
            refine (digit_any W1 (z % 16) (by omega) (by omega)).mono ?_
            rintro e W2 ⟨rfl, rfl⟩
            exact hK' _ _ (Fr.refl _ _) rfl
          · have e21 := hG.val (v := .int .u8 (digR (z / 16))) 6 21 (hd _ rfl ⟨6, .data⟩ (by simp) rfl) rfl rfl
            have e27 := hG.val (v := .int .u8 (digR (z % 16))) 12 27 (hd _ rfl ⟨12, .data⟩ (by simp) rfl) rfl rfl
            refine op_do rfl (wanted_none rfl) hK (fun K' hK' => ?_)
            unfold Oper.wp
            go_simp
            exact hK' _ _ ((Fr.refl _ _).alloc _) ⟨_, rfl, Blk.new _ _ _⟩
        · intro q a1 W1 hq hG
          have f1 := hG.grown
          obtain ⟨vs, hv, rfl⟩ := hG.front 31 rfl (by kernel_rfl) (by decide) hq [(0, 15), (1, 16), (2, 17), (3, 18), (4, 19), (5, 20), (6, 21), (7, 22), (8, 23), (9, 24), (10, 25), (11, 26), (12, 27), (13, 28)] (by kernel_rfl)
          clear hG hq
          have r0 : vs 0 = .slice pv n cv := hv 0 15 (by decide) rfl
          have r1 : vs 1 = .slice (some ⟨g, o, none⟩) N c := hv 1 16 (by decide) rfl
          have r2 : vs 2 = .int .i64 i := hv 2 17 (by decide) rfl
          have r3 : vs 3 = .pointer (some ⟨g, o + i, none⟩) := hv 3 18 (by decide) rfl
          have r4 : vs 4 = .int .u8 z := hv 4 19 (by decide) rfl
          have r5 : vs 5 = .int .u8 (z / 16) := hv 5 20 (by decide) rfl
          have r6 : vs 6 = .int .u8 (digR (z / 16)) := hv 6 21 (by decide) rfl
          have r7 : vs 7 = .slice (some ⟨g, o, none⟩) N c := hv 7 22 (by decide) rfl
          have r8 : vs 8 = .int .i64 i := hv 8 23 (by decide) rfl
          have r9 : vs 9 = .pointer (some ⟨g, o + i, none⟩) := hv 9 24 (by decide) rfl
          have r10 : vs 10 = .int .u8 z := hv 10 25 (by decide) rfl
          have r11 : vs 11 = .int .u8 (z % 16) := hv 11 26 (by decide) rfl
          have r12 : vs 12 = .int .u8 (digR (z % 16)) := hv 12 27 (by decide) rfl
          have r13 := hv 13 28 (by decide) rfl
          simp only [List.drop_succ_cons, List.drop_zero, lay, List.foldl_cons, List.foldl_nil, r0, r1, r2, r3, r4, r5, r6, r7, r8, r9, r10, r11, r12]
          simp only [List.setIfInBounds_toArray, List.set_cons_zero, List.set_cons_succ]
          clear hv r0 r1 r2 r3 r4 r5 r6 r7 r8 r9 r10 r11 r12
          generalize vs 13 = x13 at *
          clear vs
          have HF1 := Lib.hid f1
          obtain ⟨gb, rfl, hgb⟩ := r13
          have HGB := Lib.hid hgb
          have HOW := Lib.hid (own_fr HV1.out f1 (by simp))
          clear f1 hgb
          go_wp2_with (at_builtin; go_must (refine wpList_app _ rfl _ _ 42 rfl 5 (.int .u8 0) 1 1 Tryd.underlying42 infoU8 rfl (by decide) (.slice pv n cv) n (u8s L) rfl HOW.out ⟨gb, 0, none⟩ 2 2 [.int .u8 (digR (z / 16)), .int .u8 (digR (z % 16))] rfl rfl (fun j u hu => by rw [Addr.add_lit]; simpa using HGB.out.at j (v := u) (by simpa using hu)) (by simp [Value.oneCell']) (by have := HLN.out; unfold maxLen; omega) (by have := HLN.out; omega) ?_); intro v1 w4 happ; have HAP := Lib.hid happ; clear happ)
          have hv0 := HV.out.1
          have f5 : Fr [] w W1 := HV.out.2.1.trans HF1.out (by simp)
          have f4 : Fr [] w w4 := f5.trans HAP.out.fr (fun x hx => .inr (hv0.2 x (by simpa using hx)))
          have hgo : ∀ g, v1.ownBlock = some g → w.heap.size ≤ g := fun g hg => by
            rcases HAP.out.place with q | q
            · exact hv0.2 g (by rw [← q]; exact hg)
            · rw [q] at hg; cases hg; exact f5.size
          have hl2 : (hexN' (l.take (i + 1))) = L ++ [digR (z / 16), digR (z % 16)] := by
            obtain ⟨hq, he⟩ := HLT.out
            rw [List.take_succ_eq_append_getElem hq, hexN'_app, HL.out, he]
          have hown : w4.ownsRow 0 5 1 v1 (hexN' (l.take (i + 1))).length (u8s (hexN' (l.take (i + 1)))) := by
            have := HAP.out.own
            rw [hl2, List.length_append, ← HNN.out]
            simpa [u8s] using this
          exact ⟨⟨i + 1, rfl, by have := HLT.out.choose; omega, ⟨hown, hgo⟩, f4⟩, by have := HLT.out.choose; show l.length - ((i : Int) + 1).toNat < l.length - ((i : Nat) : Int).toNat; omega⟩
      · obtain rfl : i = l.length := by have := HVI.out; omega
        have d1 : ¬ ((l.length : Int) < (N : Int)) := by rw [HN.out]; omega
        have d2 : (N : Int) ≤ (l.length : Int) := by rw [HN.out]; exact Int.le_refl _
        obtain rfl : R = L := by rw [HR.out, ← HL.out, List.take_of_length_le (Nat.le_refl _)]
        clear hlt
        go_wp2
        go_ret
        exact ⟨_, rfl, HV.out.1, HV.out.2.1⟩
end Sc
end Go.Proofs.YtbpgpjibljgiiaaDoor
