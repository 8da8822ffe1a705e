/-
  Script, the document: the first field that is not as the letters say. Printed by genWr.py.
-/
import Derived.Test.YtbpgpjibljgiiaaDoorRefP
namespace Go.Proofs.YtbpgpjibljgiiaaDoor
open Go.RowKit
set_option linter.unusedVariables false
set_option linter.unusedSimpArgs false
attribute [local go_sem] Oper.semAt_some
namespace Sc
def rightB (s : ByteArray) (c : UInt8) : Bool := if c = 78 then (scan s.data.toList).isSome else if c = 66 then (bytL s).isSome else decide (s = oneB)
set_option maxRecDepth 100000 in
theorem right_any (w : World) (s : ByteArray) (c : UInt8) (hs : s.size ≤ 4294967296) : Calls Tryd.prog 78 #[.string s, .int .u8 (c.toNat : Int)] w fun e w' => e = .returned (.bool (rightB s c)) ∧ Fr [] w w' := by
  have e1 : (s.toList == [49]) = decide (s = oneB) := by rw [show ([49] : List UInt8) = oneB.toList by kernel_rfl, toList_beq]
  have e2 : (s.toList == (⟨#[49]⟩ : ByteArray).toList) = decide (s = oneB) := toList_beq _ _
  by_cases h78 : c = 78
  · have d1 : ((c.toNat : Int) == 78) = true := by rw [h78]; rfl
    have d2 : ((c.toNat : Int) == 66) = false := by rw [h78]; rfl
    have HW := Lib.hid (whole_any w s hs)
    rw [show rightB s c = (scan s.data.toList).isSome from if_pos h78]
    clear h78 hs
    go_enter Tryd.func78, Tryd.ntmps78
    go_wp2_with fail
    (with_reducible refine HW.out.mono ?_)
    rintro e w1 ⟨v, rfl, -, f1⟩
    go_wp2
    go_ret
    exact ⟨rfl, f1⟩
  · have n78 : ((c.toNat : Int) == 78) = false := by
      rw [beq_eq_false_iff_ne]
      intro q
      exact h78 (UInt8.toNat_inj.1 (by rw [show (78 : UInt8).toNat = 78 from rfl]; omega))
    by_cases h66 : c = 66
    · have d2 : ((c.toNat : Int) == 66) = true := by rw [h66]; rfl
      have HW := Lib.hid (laid_any w s hs)
      rw [show rightB s c = (bytL s).isSome by unfold rightB; rw [if_neg h78, if_pos h66]]
      clear h78 h66 hs
      go_enter Tryd.func78, Tryd.ntmps78
      go_wp2_with fail
      (with_reducible refine HW.out.mono ?_)
      rintro e w1 ⟨v, rfl, -, f1⟩
      go_wp2
      go_ret
      exact ⟨rfl, f1⟩
    · have n66 : ((c.toNat : Int) == 66) = false := by
        rw [beq_eq_false_iff_ne]
        intro q
        exact h66 (UInt8.toNat_inj.1 (by rw [show (66 : UInt8).toNat = 66 from rfl]; omega))
      rw [show rightB s c = decide (s = oneB) by unfold rightB; rw [if_neg h78, if_neg h66]]
      clear h78 h66 hs
      go_enter Tryd.func78, Tryd.ntmps78
      go_wp2
      go_ret
      exact ⟨rfl, Fr.refl _ _⟩
/-- The first field from k on that is not as the letters say. -/
def wrongG (F : List ByteArray) (k : Nat) : List UInt8 → Flt
  | [] => overF F k
  | c :: r => if k < F.length then (if rightB (fld F k) c then wrongG F (k + 1) r else some (k, 281)) else some (k, 282)
def fltN (f : Flt) : Nat := match f with | none => 0 | some q => q.1
def fltC (f : Flt) : Int := match f with | none => 0 | some q => q.2
set_option maxRecDepth 100000 in
set_option maxHeartbeats 4000000 in
theorem wrong_fields (w : World) (g c k : Nat) (F : List ByteArray) (ls : ByteArray) (hF : ∀ i s, F[i]? = some s → w.cell? ⟨g, i, none⟩ = some (.string s)) (hFs : ∀ s ∈ F, s.size ≤ 4294967296) (hk : k ≤ 4294967296) (hl : ls.size ≤ 4294967296) (hn : F.length ≤ 4294967296) (hcap : F.length ≤ c) :
    Calls Tryd.prog 66 #[.slice (some ⟨g, 0, none⟩) F.length c, .int .i64 k, .string ls] w fun e w' => e = .returned (.tuple #[.int .i64 (fltN (wrongG F k ls.data.toList)), .int .i64 (fltC (wrongG F k ls.data.toList))]) ∧ Fr [] w w' := by
  obtain ⟨R, hR⟩ : ∃ R, R = wrongG F k ls.data.toList := ⟨_, rfl⟩
  rw [← hR]
  obtain ⟨n, hnn⟩ : ∃ n, n = F.length := ⟨_, rfl⟩
  have HN := Lib.hid hnn
  have HR := Lib.hid hR
  have HFF := Lib.hid (And.intro hF hFs)
  have k1 : (k : Int) ≤ 4294967296 := by omega
  have k2 : (ls.size : Int) ≤ 4294967296 := by omega
  have k3 : (n : Int) ≤ 4294967296 := by omega
  have k4 : (0 : Int) ≤ (k : Int) := by omega
  have HB := Lib.hid (And.intro hk (And.intro hl (And.intro hn hcap)))
  rw [← hnn]
  clear hR hnn hF hFs hk hl hn hcap
  go_enter Tryd.func66, Tryd.ntmps66
  go_wp2_with fail
  go_loopw [8] (fun iv wr => ∃ i : Nat, iv = .int .i64 i ∧ i ≤ ls.size ∧ R = wrongG F (k + i) (ls.data.toList.drop i) ∧ Fr [] w wr) (fun iv _ => ls.size - (match iv with | .int _ q => q.toNat | _ => 0))
  case atStart => exact ⟨0, rfl, Nat.zero_le _, HR.out, Fr.refl _ _⟩
  case round =>
    obtain ⟨i, rfl, hi, hr, hf⟩ := hrel
    obtain ⟨wi, hwi⟩ : ∃ wi : World, wi = wr := ⟨_, rfl⟩
    rw [← hwi] at hf ⊢
    clear hwi
    have HI := Lib.hid (And.intro hi (And.intro hi (And.intro hr hf)))
    have hi4 : (i : Int) ≤ 4294967296 := by omega
    have hi0 : (0 : Int) ≤ (i : Int) := by omega
    clear hi hr hf
    by_cases hlt : i < ls.size
    · have d1 : (i : Int) < (ls.size : Int) := by omega
      obtain ⟨a, ha⟩ : ∃ a : UInt8, ls[i] = a := ⟨_, rfl⟩
      have HL := Lib.hid (show ls.data.toList.drop i = a :: ls.data.toList.drop (i + 1) by rw [drop_at hlt, ha])
      by_cases hkn : k + i < n
      · have d2 : (k : Int) + (i : Int) < (n : Int) := by omega
        have hkF : k + i < F.length := by rw [← HN.out]; exact hkn
        have HLT := Lib.hid (And.intro hlt hkF)
        obtain ⟨x, hx⟩ : ∃ x, x = fld F (k + i) := ⟨_, rfl⟩
        have HFX := Lib.hid hx
        have hxi : F[k + i]? = some x := by rw [hx]; unfold fld; rw [List.getD_eq_getElem?_getD, List.getElem?_eq_getElem hkF, Option.getD_some]
        have HX := Lib.hid (HFF.out.2 x (List.mem_of_getElem? hxi))
        have hcell := HFF.out.1 _ _ hxi
        have HC := Lib.hid (And.intro (HI.out.2.2.2.cell (World.block_lt_of_cell? w _ hcell) (by simp) |>.trans hcell) (show g < wi.heap.size from Nat.lt_of_lt_of_le (World.block_lt_of_cell? w _ hcell) HI.out.2.2.2.size))
        have q1 : IntKind.i64.wrap ((k : Int) + (i : Int)) = (k : Int) + (i : Int) := by rw [IntKind.wrap_i64]; omega
        have q2 : ((k : Int) + (i : Int)).toNat = k + i := by omega
        have q3 : (0 : Int) ≤ (k : Int) + (i : Int) := by omega
        clear hkn hx hxi hcell hkF
        go_wp2_with fail
        refine region_grow (by kernel_rfl) (by kernel_rfl) [.is (.slice (some ⟨g, 0, none⟩) n c), .is (.int .i64 k), .is (.int .i64 i), .is (.int .i64 ((k : Int) + (i : Int))), .is (.pointer (some ⟨g, k + i, none⟩)), .is (.string x), .is (.string ls), .is (.int .i64 i), .is (.int .u8 (a.toNat : Int)), .is (.bool (rightB x a)), .is (.bool (rightB x a))] 51 rfl (by kernel_rfl) [(0, 25), (1, 26), (2, 27), (3, 28), (4, 29), (5, 30), (6, 31), (7, 32), (8, 33), (9, 34), (10, 9)] (by kernel_rfl) ?_ ?_
        · intro q a1 W1 i hi hnq hd hG K hK
          have hlt : i < 11 := hi
          have hc : i = 0 ∨ i = 1 ∨ i = 2 ∨ i = 3 ∨ i = 4 ∨ i = 5 ∨ i = 6 ∨ i = 7 ∨ i = 8 ∨ i = 9 ∨ i = 10 := by omega
          rcases hc with rfl | rfl | rfl | rfl | rfl | rfl | rfl | rfl | rfl | rfl | rfl
          · have e0 := hG.old 0 (by kernel_rfl)
            refine op_do rfl (wanted_none rfl) hK (fun K' hK' => ?_)
            unfold Oper.wp
            go_simp
            exact hK' _ _ (Fr.refl _ _) rfl
          · have e1 := hG.old 1 (by kernel_rfl)
            refine op_do rfl (wanted_none rfl) hK (fun K' hK' => ?_)
            unfold Oper.wp
            go_simp
            exact hK' _ _ (Fr.refl _ _) rfl
          · have e8 := hG.old 8 (by kernel_rfl)
            refine op_do rfl (wanted_none rfl) hK (fun K' hK' => ?_)
            unfold Oper.wp
            go_simp
            exact hK' _ _ (Fr.refl _ _) rfl
          · have e26 := hG.val (v := .int .i64 k) 1 26 (hd _ rfl ⟨1, .data⟩ (by simp) rfl) rfl rfl
            have e27 := hG.val (v := .int .i64 i) 2 27 (hd _ rfl ⟨2, .data⟩ (by simp) rfl) rfl rfl
            refine op_do rfl (wanted_none rfl) hK (fun K' hK' => ?_)
            unfold Oper.wp
            go_simp
            exact hK' _ _ (Fr.refl _ _) rfl
          · have e25 := hG.val (v := .slice (some ⟨g, 0, none⟩) n c) 0 25 (hd _ rfl ⟨0, .data⟩ (by simp) rfl) rfl rfl
            have e28 := hG.val (v := .int .i64 ((k : Int) + (i : Int))) 3 28 (hd _ rfl ⟨3, .data⟩ (by simp) rfl) rfl rfl
            refine op_do rfl (wanted_none rfl) hK (fun K' hK' => ?_)
            unfold Oper.wp
            go_simp
            exact hK' _ _ (Fr.refl _ _) rfl
          · have e29 := hG.val (v := .pointer (some ⟨g, k + i, none⟩)) 4 29 (hd _ rfl ⟨4, .data⟩ (by simp) rfl) rfl rfl
            have cc := (Fr.cell hG.grown (a := ⟨g, k + i, none⟩) HC.out.2 (by simp)).trans HC.out.1
            refine op_do rfl (wanted_none rfl) hK (fun K' hK' => ?_)
            unfold Oper.wp
            go_simp
            exact hK' _ _ (Fr.refl _ _) rfl
          · have e2 := hG.old 2 (by kernel_rfl)
            refine op_do rfl (wanted_none rfl) hK (fun K' hK' => ?_)
            unfold Oper.wp
            go_simp
            exact hK' _ _ (Fr.refl _ _) rfl
          · have e8 := hG.old 8 (by kernel_rfl)
            refine op_do rfl (wanted_none rfl) hK (fun K' hK' => ?_)
            unfold Oper.wp
            go_simp
            exact hK' _ _ (Fr.refl _ _) rfl
          · have e31 := hG.val (v := .string ls) 6 31 (hd _ rfl ⟨6, .data⟩ (by simp) rfl) rfl rfl
            have e32 := hG.val (v := .int .i64 i) 7 32 (hd _ rfl ⟨7, .data⟩ (by simp) rfl) rfl rfl
            refine op_do rfl (wanted_none rfl) hK (fun K' hK' => ?_)
            unfold Oper.wp
            go_simp
            exact hK' _ _ (Fr.refl _ _) rfl
          · have e30 := hG.val (v := .string x) 5 30 (hd _ rfl ⟨5, .data⟩ (by simp) rfl) rfl rfl
            have e33 := hG.val (v := .int .u8 (a.toNat : Int)) 8 33 (hd _ rfl ⟨8, .data⟩ (by simp) rfl) rfl rfl
            refine op_do rfl (wanted_none rfl) hK (fun K' hK' => ?_)
            unfold Oper.wp
            go_simp
            refine (right_any W1 x a HX.out).mono ?_
            rintro e W2 ⟨rfl, hf⟩
            exact hK' _ _ hf rfl
          · have e34 := hG.val (v := .bool (rightB x a)) 9 34 (hd _ rfl ⟨9, .data⟩ (by simp) rfl) rfl rfl
            refine op_do rfl (wanted_none rfl) hK (fun K' hK' => ?_)
            unfold Oper.wp
            go_simp
            exact hK' _ _ (Fr.refl _ _) rfl
        · intro vs W1 f1 hv
          have r0 : vs 0 = .slice (some ⟨g, 0, none⟩) n c := hv 0 25 (by decide) rfl
          have r1 : vs 1 = .int .i64 k := hv 1 26 (by decide) rfl
          have r2 : vs 2 = .int .i64 i := hv 2 27 (by decide) rfl
          have r3 : vs 3 = .int .i64 ((k : Int) + (i : Int)) := hv 3 28 (by decide) rfl
          have r4 : vs 4 = .pointer (some ⟨g, k + i, none⟩) := hv 4 29 (by decide) rfl
          have r5 : vs 5 = .string x := hv 5 30 (by decide) rfl
          have r6 : vs 6 = .string ls := hv 6 31 (by decide) rfl
          have r7 : vs 7 = .int .i64 i := hv 7 32 (by decide) rfl
          have r8 : vs 8 = .int .u8 (a.toNat : Int) := hv 8 33 (by decide) rfl
          have r9 : vs 9 = .bool (rightB x a) := hv 9 34 (by decide) rfl
          have r10 : vs 10 = .bool (rightB x a) := hv 10 9 (by decide) rfl
          simp only [lay, List.foldl_cons, List.foldl_nil, r0, r1, r2, r3, r4, r5, r6, r7, r8, r9, r10]
          simp only [List.setIfInBounds_toArray, List.set_cons_zero, List.set_cons_succ]
          clear hv r0 r1 r2 r3 r4 r5 r6 r7 r8 r9 r10
          have HF := Lib.hid f1
          clear f1
          cases hr : rightB x a with
          | true =>
            have HN := Lib.hid (show R = wrongG F (k + (i + 1)) (ls.data.toList.drop (i + 1)) by rw [HI.out.2.2.1, HL.out, wrongG, if_pos HLT.out.2, if_pos (by rw [← HFX.out]; exact hr), Nat.add_assoc])
            clear hr
            go_wp2
            exact ⟨⟨i + 1, rfl, by have := HLT.out.1; omega, HN.out, HI.out.2.2.2.trans HF.out (by simp)⟩, by have := HLT.out.1; show ls.size - ((i : Int) + 1).toNat < ls.size - ((i : Nat) : Int).toNat; omega⟩
          | false =>
            have HN := Lib.hid (show R = some (k + i, 281) by rw [HI.out.2.2.1, HL.out, wrongG, if_pos HLT.out.2, if_neg (by rw [← HFX.out, hr]; simp)])
            clear hr
            go_wp2
            go_ret2
            exact ⟨by rw [HN.out]; rfl, HI.out.2.2.2.trans HF.out (by simp)⟩
      · have d2 : (n : Int) ≤ (k : Int) + (i : Int) := by omega
        have HE := Lib.hid (show R = some (k + i, 282) by rw [HI.out.2.2.1, HL.out, wrongG, if_neg (by rw [← HN.out]; exact hkn)])
        clear hkn hlt ha
        go_wp2
        go_ret2
        exact ⟨by rw [HE.out]; rfl, HI.out.2.2.2⟩
    · obtain rfl : i = ls.size := by have := HI.out.1; omega
      have HE := Lib.hid (show R = overF F (k + ls.size) by rw [HI.out.2.2.1, drop_end (Nat.lt_irrefl _)]; rfl)
      by_cases ho : k + ls.size < n
      · have d2 : (k : Int) + (ls.size : Int) < (n : Int) := by omega
        have HE2 := Lib.hid (show R = some (k + ls.size, 282) by rw [HE.out]; exact if_pos (by rw [← HN.out]; exact ho))
        clear ho hlt
        go_wp2
        go_ret2
        exact ⟨by rw [HE2.out]; rfl, HI.out.2.2.2⟩
      · have d2 : (n : Int) ≤ (k : Int) + (ls.size : Int) := by omega
        have HE2 := Lib.hid (show R = none by rw [HE.out]; exact if_neg (by rw [← HN.out]; exact ho))
        clear ho hlt
        go_wp2
        go_ret2
        exact ⟨by rw [HE2.out]; rfl, HI.out.2.2.2⟩
end Sc
end Go.Proofs.YtbpgpjibljgiiaaDoor
