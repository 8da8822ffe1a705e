/-
  ScriptPrints: the walk. Printed by genPx.py.
-/
import Derived.Test.YtbpgpjibljgiiaaDoorPrN
import Derived.Test.YtbpgpjibljgiiaaDoorPrM
namespace Go.Proofs.YtbpgpjibljgiiaaDoor
open Go.RowKit
set_option linter.unusedVariables false
set_option linter.unusedSimpArgs false
attribute [local go_sem] Oper.semAt_some
attribute [local go_sem ↓] loadVar29 storeVar29 loadVar26
attribute [local go_sem] run_loadScr run_storeScr
namespace Sc
set_option maxRecDepth 100000 in
set_option maxHeartbeats 16000000 in
theorem prints_walk (w : World) (v0 v1 v2 v3 v4 v5 v6 v7 v8 v9 v10 : Int) (hcfg : ∀ n ∈ [v0, v1, v2, v3, v4, v5, v6, v7, v8, v9, v10], -9223372036854775808 ≤ n ∧ n ≤ 9223372036854775807) (v : Value) (C : List (St × Value)) (hv : RdT w v C) (hst : ∀ x ∈ C, StI x.1) (hbl : ∀ x ∈ C, x.1.by'.length ≤ 140737488351232) (hn : C.length ≤ 2513169434843) (m : Int) (hm : w.cell? ⟨1, 0, none⟩ = some (.int .i64 m)) (htb : TB w) :
    Calls Tryd.prog 5 #[.agg #[.int .i64 v0, .int .i64 v1, .int .i64 v2, .int .i64 v3, .int .i64 v4, .int .i64 v5, .int .i64 v6, .int .i64 v7, .int .i64 v8, .int .i64 v9, .int .i64 v10, v]] w fun e w' => e = .returned (.bool true) ∧ Fr [] w w' := by
  have HM := Lib.hid (show ∀ W, Fr [] w W → W.cell? ⟨1, 0, none⟩ = some (.int .i64 m) from fun W f => (f.cell (World.block_lt_of_cell? w _ hm) (by simp)).trans hm)
  have HTB := Lib.hid htb
  obtain ⟨p, c, rfl⟩ : ∃ p c, v = .slice p C.length c := by obtain ⟨p, c, hv, -⟩ := hv.form; exact ⟨p, c, hv⟩
  obtain ⟨N, hN⟩ : ∃ N, N = C.length := ⟨_, rfl⟩
  have HN := Lib.hid hN
  have HV := Lib.hid (And.intro hv (And.intro hst (And.intro hbl hn)))
  have HCFG := Lib.hid hcfg
  rw [← hN]
  obtain ⟨bx, hbx⟩ : ∃ bx, bx = w.heap.size := ⟨_, rfl⟩
  obtain ⟨w0, hw0⟩ : ∃ w0, w.alloc (.cells #[.int .i64 v0, .int .i64 v1, .int .i64 v2, .int .i64 v3, .int .i64 v4, .int .i64 v5, .int .i64 v6, .int .i64 v7, .int .i64 v8, .int .i64 v9, .int .i64 v10, .slice p N c] 29) = w0 := ⟨_, rfl⟩
  have H0 := Lib.hid (show Blk w0 bx #[.int .i64 v0, .int .i64 v1, .int .i64 v2, .int .i64 v3, .int .i64 v4, .int .i64 v5, .int .i64 v6, .int .i64 v7, .int .i64 v8, .int .i64 v9, .int .i64 v10, .slice p N c] 29 ∧ Fr [] w w0 by rw [← hw0]; exact ⟨Blk.new_at hbx _ _, (Fr.refl _ _).alloc _⟩)
  have HW0 := Lib.hid hw0
  have HBX := Lib.hid hbx
  have HBB := Lib.hid (show ∀ W, Fr [] w0 W → Blk W bx #[.int .i64 v0, .int .i64 v1, .int .i64 v2, .int .i64 v3, .int .i64 v4, .int .i64 v5, .int .i64 v6, .int .i64 v7, .int .i64 v8, .int .i64 v9, .int .i64 v10, .slice p N c] 29 from fun W f => f.blk H0.out.1 (by simp))
  have HCF0 := Lib.hid (show ∀ W, Fr [] w0 W → (loadCf ⟨bx, 0, none⟩).run Tryd.prog W = .ok (.agg #[.int .i64 v0, .int .i64 v1, .int .i64 v2, .int .i64 v3, .int .i64 v4, .int .i64 v5, .int .i64 v6, .int .i64 v7, .int .i64 v8, .int .i64 v9, .int .i64 v10]) W from fun W f => run_cfg W bx v0 v1 v2 v3 v4 v5 v6 v7 v8 v9 v10 _ 29 (HBB.out W f))
  have HC11 := Lib.hid (show ∀ W, Fr [] w0 W → W.cell? ⟨bx, 11, none⟩ = some (.slice p N c) from fun W f => (HBB.out W f).at 11 rfl)
  have HRD := Lib.hid (show ∀ W, Fr [] w0 W → RdT W (.slice p N c) C from fun W f => by rw [HN.out]; exact HV.out.1.fr (H0.out.2.trans f (by simp)))
  have HCO := Lib.hid (show ∀ W, Fr [] w0 W → Calls Tryd.prog 10 #[.slice p N c] W fun e w' => Copied1 W C e w' from fun W f => copied_any W _ C (HRD.out W f) (by have := HV.out.2.2.2; omega) HV.out.2.2.1)
  clear hm htb hN hv hst hbl hn hcfg hbx hw0
  go_enter Tryd.func5, Tryd.ntmps5
  go_upto_region 1 with fail
  rw [HW0.out, ← HBX.out]
  refine region_tail (by kernel_rfl) (by kernel_rfl) [[], [0], [], [2], [2, 3], [0, 1, 2, 3, 4], [], [0, 1, 2, 3, 4, 5, 6]] (by kernel_rfl) 7 (by decide) (by kernel_rfl) [.is (.pointer (some ⟨bx, 0, none⟩)), .is (.agg #[.int .i64 v0, .int .i64 v1, .int .i64 v2, .int .i64 v3, .int .i64 v4, .int .i64 v5, .int .i64 v6, .int .i64 v7, .int .i64 v8, .int .i64 v9, .int .i64 v10]), .is (.pointer (some ⟨bx, 11, none⟩)), .is (.slice p N c), .cop (C.map Prod.fst), .scr [v0, v1, v2, v3, v4, v5, v6, v7, v8, v9, v10] (C.map Prod.fst), .box29 w0.heap.size] 81 rfl (by kernel_rfl) ?_ ?_
  · intro q a1 W1 i hi hnq hd hG K hK
    have hlt : i < 7 := hi
    have hc : i = 0 ∨ i = 1 ∨ i = 2 ∨ i = 3 ∨ i = 4 ∨ i = 5 ∨ i = 6 := by omega
    rcases hc with rfl | rfl | rfl | rfl | rfl | rfl | rfl
    · have e1 := hG.old 1 (by kernel_rfl)
      refine op_do rfl (wanted_none rfl) hK (fun K' hK' => ?_)
      unfold Oper.wp
      go_simp
      exact hK' _ _ (Fr.refl _ _) rfl
    · have e10 := hG.val (v := .pointer (some ⟨bx, 0, none⟩)) 0 10 (hd _ rfl ⟨0, .data⟩ (by simp) rfl) rfl rfl
      have hcf := HCF0.out W1 hG.grown
      refine op_do rfl (wanted_none rfl) hK (fun K' hK' => ?_)
      unfold Oper.wp
      go_simp
      exact hK' _ _ (Fr.refl _ _) rfl
    · have e1 := hG.old 1 (by kernel_rfl)
      refine op_do rfl (wanted_none rfl) hK (fun K' hK' => ?_)
      unfold Oper.wp
      go_simp
      exact hK' _ _ (Fr.refl _ _) rfl
    · have e12 := hG.val (v := .pointer (some ⟨bx, 11, none⟩)) 2 12 (hd _ rfl ⟨2, .data⟩ (by simp) rfl) rfl rfl
      have hc11 := HC11.out W1 hG.grown
      refine op_do rfl (wanted_none rfl) hK (fun K' hK' => ?_)
      unfold Oper.wp
      go_simp
      exact hK' _ _ (Fr.refl _ _) rfl
    · have e13 := hG.val (v := .slice p N c) 3 13 (hd _ rfl ⟨3, .data⟩ (by simp) rfl) rfl rfl
      refine op_do rfl (wanted_none rfl) hK (fun K' hK' => ?_)
      unfold Oper.wp
      go_simp
      refine (HCO.out W1 hG.grown).mono ?_
      rintro e W2 ⟨v2, C2, rfl, hm2, hc2, hf⟩
      exact hK' _ _ hf ⟨_, C2, hc2, hm2⟩
    · have e11 := hG.val (v := .agg #[.int .i64 v0, .int .i64 v1, .int .i64 v2, .int .i64 v3, .int .i64 v4, .int .i64 v5, .int .i64 v6, .int .i64 v7, .int .i64 v8, .int .i64 v9, .int .i64 v10]) 1 11 (hd _ rfl ⟨1, .data⟩ (by simp) rfl) rfl rfl
      obtain ⟨u4, e14, s4⟩ := hG.get 4 14 (hd _ rfl ⟨4, .data⟩ (by simp) rfl) rfl
      obtain ⟨n4, C4, hC4, hm4⟩ := s4
      obtain ⟨p4, c4, rfl⟩ := own_form hC4.st.own
      refine op_do rfl (wanted_none rfl) hK (fun K' hK' => ?_)
      unfold Oper.wp
      go_simp
      exact hK' _ _ (Fr.refl _ _) ⟨_, n4, C4, rfl, hC4, hm4⟩
    · refine op_do rfl (wanted_none rfl) hK (fun K' hK' => ?_)
      unfold Oper.wp
      go_simp
      exact hK' _ _ ((Fr.refl _ _).alloc _) ⟨_, rfl, hG.grown.size, Blk.new _ _ _⟩
  · intro q a1 W1 hq hG
    have f1 := hG.grown
    obtain ⟨vs, hv, rfl⟩ := hG.front 81 rfl (by kernel_rfl) (by decide) hq [(0, 10), (1, 11), (2, 12), (3, 13), (4, 14), (5, 15), (6, 3)] (by kernel_rfl)
    clear hG hq
    have r0 : vs 0 = .pointer (some ⟨bx, 0, none⟩) := hv 0 10 (by decide) rfl
    have r1 : vs 1 = .agg #[.int .i64 v0, .int .i64 v1, .int .i64 v2, .int .i64 v3, .int .i64 v4, .int .i64 v5, .int .i64 v6, .int .i64 v7, .int .i64 v8, .int .i64 v9, .int .i64 v10] := hv 1 11 (by decide) rfl
    have r2 : vs 2 = .pointer (some ⟨bx, 11, none⟩) := hv 2 12 (by decide) rfl
    have r3 : vs 3 = .slice p N c := hv 3 13 (by decide) rfl
    have r4 := hv 4 14 (by decide) rfl
    have r5 := hv 5 15 (by decide) rfl
    have r6 := hv 6 3 (by decide) rfl
    simp only [List.drop_succ_cons, List.drop_zero, lay, List.foldl_cons, List.foldl_nil, r0, r1, r2, r3]
    simp only [List.setIfInBounds_toArray, List.set_cons_zero, List.set_cons_succ]
    clear hv r0 r1 r2 r3
    generalize vs 4 = x4 at *
    generalize vs 5 = x5 at *
    generalize vs 6 = x6 at *
    clear vs
    obtain ⟨u, nu, CU, rfl, hcu, hmu⟩ := r5
    obtain ⟨g, rfl, hng, hbox⟩ := r6
    clear r4
    have hlu : CU.length = C.length := by have := congrArg List.length hmu; simpa using this
    obtain ⟨pu, cu, rfl⟩ := own_form hcu.st.own
    rw [hlu, ← HN.out] at hcu ⊢
    have q1 := hbox.can12 rfl
    have zo : scrOk #[.int .i64 v0, .int .i64 v1, .int .i64 v2, .int .i64 v3, .int .i64 v4, .int .i64 v5, .int .i64 v6, .int .i64 v7, .int .i64 v8, .int .i64 v9, .int .i64 v10, .slice pu N cu] = true := scrC_ok (cfg := [v0, v1, v2, v3, v4, v5, v6, v7, v8, v9, v10]) rfl rfl
    obtain ⟨w2, hw2⟩ : ∃ w2, layA W1 g #[.int .i64 v0, .int .i64 v1, .int .i64 v2, .int .i64 v3, .int .i64 v4, .int .i64 v5, .int .i64 v6, .int .i64 v7, .int .i64 v8, .int .i64 v9, .int .i64 v10, .slice pu N cu] = w2 := ⟨_, rfl⟩
    have hb2 : Blk w2 g #[.int .i64 v0, .int .i64 v1, .int .i64 v2, .int .i64 v3, .int .i64 v4, .int .i64 v5, .int .i64 v6, .int .i64 v7, .int .i64 v8, .int .i64 v9, .int .i64 v10, .slice pu N cu] 29 := by rw [← hw2]; exact hbox.layA rfl _ rfl
    have f12 : Fr [g] W1 w2 := by rw [← hw2]; exact (Fr.refl _ _).layA _ _ (.inl (by simp))
    have HF2 := Lib.hid (show Fr [] w0 w2 from f1.trans f12 (fun x hx => .inr (by simp at hx; subst hx; exact hng)))
    have H2 := Lib.hid (show Blk w2 g #[.int .i64 v0, .int .i64 v1, .int .i64 v2, .int .i64 v3, .int .i64 v4, .int .i64 v5, .int .i64 v6, .int .i64 v7, .int .i64 v8, .int .i64 v9, .int .i64 v10, .slice pu N cu] 29 ∧ CopV w2 nu (.slice pu N cu) CU ∧ CU.map Prod.fst = C.map Prod.fst ∧ CU.length ≤ 2513169434917 from ⟨hb2, hcu.frB f12 hbox, hmu, by have := HV.out.2.2.2; omega⟩)
    have HW2 := Lib.hid hw2
    clear hlu hcu hmu hbox hb2 f12 hw2 hng f1
    rw [show scrC [v0, v1, v2, v3, v4, v5, v6, v7, v8, v9, v10] (.slice pu N cu) = #[.int .i64 v0, .int .i64 v1, .int .i64 v2, .int .i64 v3, .int .i64 v4, .int .i64 v5, .int .i64 v6, .int .i64 v7, .int .i64 v8, .int .i64 v9, .int .i64 v10, .slice pu N cu] from rfl]
    go_upto_region 2 with fail
    rw [HW2.out]
    clear q1 zo
    obtain ⟨X, hX⟩ : ∃ X, X = printX [v0, v1, v2, v3, v4, v5, v6, v7, v8, v9, v10] (C.map Prod.fst) := ⟨_, rfl⟩
    obtain ⟨E, hE⟩ : ∃ E, E = printE [v0, v1, v2, v3, v4, v5, v6, v7, v8, v9, v10] (C.map Prod.fst) := ⟨_, rfl⟩
    have HXE := Lib.hid (And.intro hX hE)
    have HPU := Lib.hid (print_any w2 nu v0 v1 v2 v3 v4 v5 v6 v7 v8 v9 v10 HCFG.out (.slice pu N cu) CU H2.out.2.1.st (fst_all H2.out.2.2.1 HV.out.2.1) H2.out.2.2.2 (HTB.out.fr (H0.out.2.trans HF2.out (by simp)) (by simp)))
    rw [H2.out.2.2.1, ← hX, ← hE] at HPU
    clear hX hE
    have q2 := H2.out.1.scr rfl
    go_wp2_with fail
    (with_reducible refine HPU.out.mono ?_)
    rintro e w3 ⟨rfl, f3⟩
    have HF3 := Lib.hid (HF2.out.trans f3 (by simp))
    have HRP := Lib.hid (rprint_any w3 v0 v1 v2 v3 v4 v5 v6 v7 v8 v9 v10 HCFG.out (.slice p N c) C (HRD.out w3 HF3.out) HV.out.2.1 (by have := HV.out.2.2.2; omega))
    rw [← HXE.out.1, ← HXE.out.2] at HRP
    have H3 := Lib.hid (show Blk w3 g #[.int .i64 v0, .int .i64 v1, .int .i64 v2, .int .i64 v3, .int .i64 v4, .int .i64 v5, .int .i64 v6, .int .i64 v7, .int .i64 v8, .int .i64 v9, .int .i64 v10, .slice pu N cu] 29 ∧ CopV w3 nu (.slice pu N cu) CU from ⟨f3.blk H2.out.1 (by simp), H2.out.2.1.fr f3⟩)
    have q1 := (HBB.out w3 HF3.out).scr rfl
    clear f3 q2
    go_wp2_with fail
    (with_reducible refine HRP.out.mono ?_)
    rintro e w4 ⟨rfl, f4⟩
    have HF4 := Lib.hid (HF3.out.trans f4 (by simp))
    have H4 := Lib.hid (show Blk w4 g #[.int .i64 v0, .int .i64 v1, .int .i64 v2, .int .i64 v3, .int .i64 v4, .int .i64 v5, .int .i64 v6, .int .i64 v7, .int .i64 v8, .int .i64 v9, .int .i64 v10, .slice pu N cu] 29 ∧ CopV w4 nu (.slice pu N cu) CU from ⟨f4.blk H3.out.1 (by simp), H3.out.2.fr f4⟩)
    clear f4 q1
    obtain ⟨KC, hK0⟩ : ∃ KC, KC = checkE [v0, v1, v2, v3, v4, v5, v6, v7, v8, v9, v10] (C.map Prod.fst) := ⟨_, rfl⟩
    obtain ⟨GC, hG0⟩ : ∃ GC, GC = cfgE [v0, v1, v2, v3, v4, v5, v6, v7, v8, v9, v10] := ⟨_, rfl⟩
    have HEX := Lib.hid (show (X.toList != X.toList) = false ∧ (E != E) = false ∧ (KC != KC) = false ∧ (GC != GC) = false from ⟨by simp, by simp, by simp, by simp⟩)
    have HB29 := Lib.hid (show ∀ W, Fr [] w4 W → scr? W bx = some (.agg #[.int .i64 v0, .int .i64 v1, .int .i64 v2, .int .i64 v3, .int .i64 v4, .int .i64 v5, .int .i64 v6, .int .i64 v7, .int .i64 v8, .int .i64 v9, .int .i64 v10, .slice p N c]) from fun W f => (HBB.out W (HF4.out.trans f (by simp))).scr rfl)
    have HB26 := Lib.hid (show ∀ W, Fr [] w4 W → (loadCf ⟨bx, 0, none⟩).run Tryd.prog W = .ok (.agg #[.int .i64 v0, .int .i64 v1, .int .i64 v2, .int .i64 v3, .int .i64 v4, .int .i64 v5, .int .i64 v6, .int .i64 v7, .int .i64 v8, .int .i64 v9, .int .i64 v10]) W from fun W f => HCF0.out W (HF4.out.trans f (by simp)))
    have HB11 := Lib.hid (show ∀ W, Fr [] w4 W → W.cell? ⟨bx, 11, none⟩ = some (.slice p N c) from fun W f => HC11.out W (HF4.out.trans f (by simp)))
    have HG29 := Lib.hid (show ∀ W, Fr [] w4 W → scr? W g = some (.agg #[.int .i64 v0, .int .i64 v1, .int .i64 v2, .int .i64 v3, .int .i64 v4, .int .i64 v5, .int .i64 v6, .int .i64 v7, .int .i64 v8, .int .i64 v9, .int .i64 v10, .slice pu N cu]) from fun W f => (f.blk H4.out.1 (by simp)).scr rfl)
    have HG11 := Lib.hid (show ∀ W, Fr [] w4 W → W.cell? ⟨g, 11, none⟩ = some (.slice pu N cu) from fun W f => (f.blk H4.out.1 (by simp)).at 11 rfl)
    have HCK := Lib.hid (show ∀ W, Fr [] w4 W → Calls Tryd.prog 19 #[.agg #[.int .i64 v0, .int .i64 v1, .int .i64 v2, .int .i64 v3, .int .i64 v4, .int .i64 v5, .int .i64 v6, .int .i64 v7, .int .i64 v8, .int .i64 v9, .int .i64 v10, .slice pu N cu]] W fun e w' => e = .returned (.int .i64 KC) ∧ Fr [] W w' from fun W f => by
      have := check_any W nu v0 v1 v2 v3 v4 v5 v6 v7 v8 v9 v10 (.slice pu N cu) CU (H4.out.2.fr f).st (fst_all H2.out.2.2.1 (P := fun s => s.kd < 256) fun x hx => (HV.out.2.1 x hx).1) H2.out.2.2.2
      rw [H2.out.2.2.1, ← hK0] at this
      exact this)
    have HRK := Lib.hid (show ∀ W, Fr [] w4 W → Calls Tryd.prog 20 #[.agg #[.int .i64 v0, .int .i64 v1, .int .i64 v2, .int .i64 v3, .int .i64 v4, .int .i64 v5, .int .i64 v6, .int .i64 v7, .int .i64 v8, .int .i64 v9, .int .i64 v10, .slice p N c]] W fun e w' => e = .returned (.int .i64 KC) ∧ Fr [] W w' from fun W f => by
      have := rcheck_any W v0 v1 v2 v3 v4 v5 v6 v7 v8 v9 v10 (.slice p N c) C (HRD.out W (HF4.out.trans f (by simp))) (fun x hx => (HV.out.2.1 x hx).2.2.2.2) (by have := HV.out.2.2.2; omega)
      rw [← hK0] at this
      exact this)
    have HCG := Lib.hid (show ∀ W, Fr [] w4 W → Calls Tryd.prog 21 #[.agg #[.int .i64 v0, .int .i64 v1, .int .i64 v2, .int .i64 v3, .int .i64 v4, .int .i64 v5, .int .i64 v6, .int .i64 v7, .int .i64 v8, .int .i64 v9, .int .i64 v10]] W fun e w' => e = .returned (.int .i64 GC) ∧ Fr [] W w' from fun W f => by rw [hG0]; exact config_any W v0 v1 v2 v3 v4 v5 v6 v7 v8 v9 v10)
    have HRG := Lib.hid (show ∀ W, Fr [] w4 W → Calls Tryd.prog 22 #[.agg #[.int .i64 v0, .int .i64 v1, .int .i64 v2, .int .i64 v3, .int .i64 v4, .int .i64 v5, .int .i64 v6, .int .i64 v7, .int .i64 v8, .int .i64 v9, .int .i64 v10]] W fun e w' => e = .returned (.int .i64 GC) ∧ Fr [] W w' from fun W f => by rw [hG0]; exact rconfig_any W v0 v1 v2 v3 v4 v5 v6 v7 v8 v9 v10)
    have HLF := Lib.hid (show ∀ W, Fr [] w4 W → Calls Tryd.prog 13 #[.slice pu N cu, .slice p N c] W fun e w' => e = .returned (.bool true) ∧ Fr [] W w' from fun W f => left_any W nu _ _ CU C (H4.out.2.fr f) (HRD.out W (HF4.out.trans f (by simp))) H2.out.2.2.1 H2.out.2.2.2 (fst_all H2.out.2.2.1 (P := fun s => s.by'.length ≤ 140737488351232) HV.out.2.2.1) (fst_all H2.out.2.2.1 (P := fun s => Byt s.by') fun x hx => (HV.out.2.1 x hx).2.2.2.2))
    clear hK0 hG0
    go_wp2_with fail
    refine region_grow (by kernel_rfl) (by kernel_rfl) [.is (.string X), .is (.string X), .is (.bool false), .is (.bool false), .is (.int .i64 E), .is (.int .i64 E), .is (.bool false), .is (.bool false), .is (.bool false), .is (.agg #[.int .i64 v0, .int .i64 v1, .int .i64 v2, .int .i64 v3, .int .i64 v4, .int .i64 v5, .int .i64 v6, .int .i64 v7, .int .i64 v8, .int .i64 v9, .int .i64 v10, .slice pu N cu]), .is (.int .i64 KC), .is (.agg #[.int .i64 v0, .int .i64 v1, .int .i64 v2, .int .i64 v3, .int .i64 v4, .int .i64 v5, .int .i64 v6, .int .i64 v7, .int .i64 v8, .int .i64 v9, .int .i64 v10, .slice p N c]), .is (.int .i64 KC), .is (.bool false), .is (.bool false), .is (.bool false), .is (.pointer (some ⟨bx, 0, none⟩)), .is (.agg #[.int .i64 v0, .int .i64 v1, .int .i64 v2, .int .i64 v3, .int .i64 v4, .int .i64 v5, .int .i64 v6, .int .i64 v7, .int .i64 v8, .int .i64 v9, .int .i64 v10]), .is (.int .i64 GC), .is (.pointer (some ⟨bx, 0, none⟩)), .is (.agg #[.int .i64 v0, .int .i64 v1, .int .i64 v2, .int .i64 v3, .int .i64 v4, .int .i64 v5, .int .i64 v6, .int .i64 v7, .int .i64 v8, .int .i64 v9, .int .i64 v10]), .is (.int .i64 GC), .is (.bool false), .is (.bool false), .is (.bool false), .is (.pointer (some ⟨g, 11, none⟩)), .is (.slice pu N cu), .is (.pointer (some ⟨bx, 11, none⟩)), .is (.slice p N c), .is (.bool true), .is (.bool false), .is (.bool false)] 81 rfl (by kernel_rfl) [(0, 26), (1, 27), (2, 28), (3, 29), (4, 30), (5, 31), (6, 32), (7, 33), (8, 34), (9, 35), (10, 36), (11, 37), (12, 38), (13, 39), (14, 40), (15, 41), (16, 42), (17, 43), (18, 44), (19, 45), (20, 46), (21, 47), (22, 48), (23, 49), (24, 50), (25, 51), (26, 52), (27, 53), (28, 54), (29, 55), (30, 56), (31, 57)] (by kernel_rfl) ?_ ?_
    · intro q a1 W1 i hi hnq hd hG K hK
      have hlt : i < 32 := hi
      have hc : i = 0 ∨ i = 1 ∨ i = 2 ∨ i = 3 ∨ i = 4 ∨ i = 5 ∨ i = 6 ∨ i = 7 ∨ i = 8 ∨ i = 9 ∨ i = 10 ∨ i = 11 ∨ i = 12 ∨ i = 13 ∨ i = 14 ∨ i = 15 ∨ i = 16 ∨ i = 17 ∨ i = 18 ∨ i = 19 ∨ i = 20 ∨ i = 21 ∨ i = 22 ∨ i = 23 ∨ i = 24 ∨ i = 25 ∨ i = 26 ∨ i = 27 ∨ i = 28 ∨ i = 29 ∨ i = 30 ∨ i = 31 := by omega
      rcases hc with rfl | rfl | rfl | rfl | rfl | rfl | rfl | rfl | rfl | rfl | rfl | rfl | rfl | rfl | rfl | rfl | rfl | rfl | rfl | rfl | rfl | rfl | rfl | rfl | rfl | rfl | rfl | rfl | rfl | rfl | rfl | rfl
      · have e4 := hG.old 4 (by kernel_rfl)
        refine op_do rfl (wanted_none rfl) hK (fun K' hK' => ?_)
        unfold Oper.wp
        go_simp
        exact hK' _ _ (Fr.refl _ _) rfl
      · have e6 := hG.old 6 (by kernel_rfl)
        refine op_do rfl (wanted_none rfl) hK (fun K' hK' => ?_)
        unfold Oper.wp
        go_simp
        exact hK' _ _ (Fr.refl _ _) rfl
      · have e26 := hG.val (v := .string X) 0 26 (hd _ rfl ⟨0, .data⟩ (by simp) rfl) rfl rfl
        have e27 := hG.val (v := .string X) 1 27 (hd _ rfl ⟨1, .data⟩ (by simp) rfl) rfl rfl
        have ex := HEX.out.1
        refine op_do rfl (wanted_none rfl) hK (fun K' hK' => ?_)
        unfold Oper.wp
        go_simp
        exact hK' _ _ (Fr.refl _ _) rfl
      · have e28 := hG.val (v := .bool false) 2 28 (hd _ rfl ⟨2, .data⟩ (by simp) rfl) rfl rfl
        refine op_do rfl (wanted_none rfl) hK (fun K' hK' => ?_)
        unfold Oper.wp
        go_simp
        exact hK' _ _ (Fr.refl _ _) rfl
      · have e5 := hG.old 5 (by kernel_rfl)
        have eg := hG.val (v := .bool false) 3 29 (hd _ rfl ⟨3, .guard⟩ (by simp) rfl) rfl rfl
        refine op_do rfl (by simp [Region.wanted, yielded, eg]) hK (fun K' hK' => ?_)
        unfold Oper.wp
        go_simp
        exact hK' _ _ (Fr.refl _ _) rfl
      · have e7 := hG.old 7 (by kernel_rfl)
        have eg := hG.val (v := .bool false) 3 29 (hd _ rfl ⟨3, .guard⟩ (by simp) rfl) rfl rfl
        refine op_do rfl (by simp [Region.wanted, yielded, eg]) hK (fun K' hK' => ?_)
        unfold Oper.wp
        go_simp
        exact hK' _ _ (Fr.refl _ _) rfl
      · have e30 := hG.val (v := .int .i64 E) 4 30 (hd _ rfl ⟨4, .data⟩ (by simp) rfl) rfl rfl
        have e31 := hG.val (v := .int .i64 E) 5 31 (hd _ rfl ⟨5, .data⟩ (by simp) rfl) rfl rfl
        have eg := hG.val (v := .bool false) 3 29 (hd _ rfl ⟨3, .guard⟩ (by simp) rfl) rfl rfl
        have ex := HEX.out.2.1
        refine op_do rfl (by simp [Region.wanted, yielded, eg]) hK (fun K' hK' => ?_)
        unfold Oper.wp
        go_simp
        exact hK' _ _ (Fr.refl _ _) rfl
      · have e29 := hG.val (v := .bool false) 3 29 (hd _ rfl ⟨3, .data⟩ (by simp) rfl) rfl rfl
        have e32 := hG.val (v := .bool false) 6 32 (hd _ rfl ⟨6, .data⟩ (by simp) rfl) rfl rfl
        refine op_do rfl (wanted_none rfl) hK (fun K' hK' => ?_)
        unfold Oper.wp
        go_simp
        exact hK' _ _ (Fr.refl _ _) rfl
      · have e33 := hG.val (v := .bool false) 7 33 (hd _ rfl ⟨7, .data⟩ (by simp) rfl) rfl rfl
        refine op_do rfl (wanted_none rfl) hK (fun K' hK' => ?_)
        unfold Oper.wp
        go_simp
        exact hK' _ _ (Fr.refl _ _) rfl
      · have e3 := hG.old 3 (by kernel_rfl)
        have eg := hG.val (v := .bool false) 8 34 (hd _ rfl ⟨8, .guard⟩ (by simp) rfl) rfl rfl
        have hq := HG29.out W1 hG.grown
        refine op_do rfl (by simp [Region.wanted, yielded, eg]) hK (fun K' hK' => ?_)
        unfold Oper.wp
        go_simp
        exact hK' _ _ (Fr.refl _ _) rfl
      · have e35 := hG.val (v := .agg #[.int .i64 v0, .int .i64 v1, .int .i64 v2, .int .i64 v3, .int .i64 v4, .int .i64 v5, .int .i64 v6, .int .i64 v7, .int .i64 v8, .int .i64 v9, .int .i64 v10, .slice pu N cu]) 9 35 (hd _ rfl ⟨9, .data⟩ (by simp) rfl) rfl rfl
        have eg := hG.val (v := .bool false) 8 34 (hd _ rfl ⟨8, .guard⟩ (by simp) rfl) rfl rfl
        refine op_do rfl (by simp [Region.wanted, yielded, eg]) hK (fun K' hK' => ?_)
        unfold Oper.wp
        go_simp
        refine (HCK.out W1 hG.grown).mono ?_
        rintro e W2 ⟨rfl, hf⟩
        exact hK' _ _ hf rfl
      · have e1 := hG.old 1 (by kernel_rfl)
        have eg := hG.val (v := .bool false) 8 34 (hd _ rfl ⟨8, .guard⟩ (by simp) rfl) rfl rfl
        have hq := HB29.out W1 hG.grown
        refine op_do rfl (by simp [Region.wanted, yielded, eg]) hK (fun K' hK' => ?_)
        unfold Oper.wp
        go_simp
        exact hK' _ _ (Fr.refl _ _) rfl
      · have e37 := hG.val (v := .agg #[.int .i64 v0, .int .i64 v1, .int .i64 v2, .int .i64 v3, .int .i64 v4, .int .i64 v5, .int .i64 v6, .int .i64 v7, .int .i64 v8, .int .i64 v9, .int .i64 v10, .slice p N c]) 11 37 (hd _ rfl ⟨11, .data⟩ (by simp) rfl) rfl rfl
        have eg := hG.val (v := .bool false) 8 34 (hd _ rfl ⟨8, .guard⟩ (by simp) rfl) rfl rfl
        refine op_do rfl (by simp [Region.wanted, yielded, eg]) hK (fun K' hK' => ?_)
        unfold Oper.wp
        go_simp
        refine (HRK.out W1 hG.grown).mono ?_
        rintro e W2 ⟨rfl, hf⟩
        exact hK' _ _ hf rfl
      · have e36 := hG.val (v := .int .i64 KC) 10 36 (hd _ rfl ⟨10, .data⟩ (by simp) rfl) rfl rfl
        have e38 := hG.val (v := .int .i64 KC) 12 38 (hd _ rfl ⟨12, .data⟩ (by simp) rfl) rfl rfl
        have eg := hG.val (v := .bool false) 8 34 (hd _ rfl ⟨8, .guard⟩ (by simp) rfl) rfl rfl
        have ex := HEX.out.2.2.1
        refine op_do rfl (by simp [Region.wanted, yielded, eg]) hK (fun K' hK' => ?_)
        unfold Oper.wp
        go_simp
        exact hK' _ _ (Fr.refl _ _) rfl
      · have e34 := hG.val (v := .bool false) 8 34 (hd _ rfl ⟨8, .data⟩ (by simp) rfl) rfl rfl
        have e39 := hG.val (v := .bool false) 13 39 (hd _ rfl ⟨13, .data⟩ (by simp) rfl) rfl rfl
        refine op_do rfl (wanted_none rfl) hK (fun K' hK' => ?_)
        unfold Oper.wp
        go_simp
        exact hK' _ _ (Fr.refl _ _) rfl
      · have e40 := hG.val (v := .bool false) 14 40 (hd _ rfl ⟨14, .data⟩ (by simp) rfl) rfl rfl
        refine op_do rfl (wanted_none rfl) hK (fun K' hK' => ?_)
        unfold Oper.wp
        go_simp
        exact hK' _ _ (Fr.refl _ _) rfl
      · have e1 := hG.old 1 (by kernel_rfl)
        have eg := hG.val (v := .bool false) 15 41 (hd _ rfl ⟨15, .guard⟩ (by simp) rfl) rfl rfl
        refine op_do rfl (by simp [Region.wanted, yielded, eg]) hK (fun K' hK' => ?_)
        unfold Oper.wp
        go_simp
        exact hK' _ _ (Fr.refl _ _) rfl
      · have e42 := hG.val (v := .pointer (some ⟨bx, 0, none⟩)) 16 42 (hd _ rfl ⟨16, .data⟩ (by simp) rfl) rfl rfl
        have eg := hG.val (v := .bool false) 15 41 (hd _ rfl ⟨15, .guard⟩ (by simp) rfl) rfl rfl
        have hq := HB26.out W1 hG.grown
        refine op_do rfl (by simp [Region.wanted, yielded, eg]) hK (fun K' hK' => ?_)
        unfold Oper.wp
        go_simp
        exact hK' _ _ (Fr.refl _ _) rfl
      · have e43 := hG.val (v := .agg #[.int .i64 v0, .int .i64 v1, .int .i64 v2, .int .i64 v3, .int .i64 v4, .int .i64 v5, .int .i64 v6, .int .i64 v7, .int .i64 v8, .int .i64 v9, .int .i64 v10]) 17 43 (hd _ rfl ⟨17, .data⟩ (by simp) rfl) rfl rfl
        have eg := hG.val (v := .bool false) 15 41 (hd _ rfl ⟨15, .guard⟩ (by simp) rfl) rfl rfl
        refine op_do rfl (by simp [Region.wanted, yielded, eg]) hK (fun K' hK' => ?_)
        unfold Oper.wp
        go_simp
        refine (HCG.out W1 hG.grown).mono ?_
        rintro e W2 ⟨rfl, hf⟩
        exact hK' _ _ hf rfl
      · have e1 := hG.old 1 (by kernel_rfl)
        have eg := hG.val (v := .bool false) 15 41 (hd _ rfl ⟨15, .guard⟩ (by simp) rfl) rfl rfl
        refine op_do rfl (by simp [Region.wanted, yielded, eg]) hK (fun K' hK' => ?_)
        unfold Oper.wp
        go_simp
        exact hK' _ _ (Fr.refl _ _) rfl
      · have e45 := hG.val (v := .pointer (some ⟨bx, 0, none⟩)) 19 45 (hd _ rfl ⟨19, .data⟩ (by simp) rfl) rfl rfl
        have eg := hG.val (v := .bool false) 15 41 (hd _ rfl ⟨15, .guard⟩ (by simp) rfl) rfl rfl
        have hq := HB26.out W1 hG.grown
        refine op_do rfl (by simp [Region.wanted, yielded, eg]) hK (fun K' hK' => ?_)
        unfold Oper.wp
        go_simp
        exact hK' _ _ (Fr.refl _ _) rfl
      · have e46 := hG.val (v := .agg #[.int .i64 v0, .int .i64 v1, .int .i64 v2, .int .i64 v3, .int .i64 v4, .int .i64 v5, .int .i64 v6, .int .i64 v7, .int .i64 v8, .int .i64 v9, .int .i64 v10]) 20 46 (hd _ rfl ⟨20, .data⟩ (by simp) rfl) rfl rfl
        have eg := hG.val (v := .bool false) 15 41 (hd _ rfl ⟨15, .guard⟩ (by simp) rfl) rfl rfl
        refine op_do rfl (by simp [Region.wanted, yielded, eg]) hK (fun K' hK' => ?_)
        unfold Oper.wp
        go_simp
        refine (HRG.out W1 hG.grown).mono ?_
        rintro e W2 ⟨rfl, hf⟩
        exact hK' _ _ hf rfl
      · have e44 := hG.val (v := .int .i64 GC) 18 44 (hd _ rfl ⟨18, .data⟩ (by simp) rfl) rfl rfl
        have e47 := hG.val (v := .int .i64 GC) 21 47 (hd _ rfl ⟨21, .data⟩ (by simp) rfl) rfl rfl
        have eg := hG.val (v := .bool false) 15 41 (hd _ rfl ⟨15, .guard⟩ (by simp) rfl) rfl rfl
        have ex := HEX.out.2.2.2
        refine op_do rfl (by simp [Region.wanted, yielded, eg]) hK (fun K' hK' => ?_)
        unfold Oper.wp
        go_simp
        exact hK' _ _ (Fr.refl _ _) rfl
      · have e41 := hG.val (v := .bool false) 15 41 (hd _ rfl ⟨15, .data⟩ (by simp) rfl) rfl rfl
        have e48 := hG.val (v := .bool false) 22 48 (hd _ rfl ⟨22, .data⟩ (by simp) rfl) rfl rfl
        refine op_do rfl (wanted_none rfl) hK (fun K' hK' => ?_)
        unfold Oper.wp
        go_simp
        exact hK' _ _ (Fr.refl _ _) rfl
      · have e49 := hG.val (v := .bool false) 23 49 (hd _ rfl ⟨23, .data⟩ (by simp) rfl) rfl rfl
        refine op_do rfl (wanted_none rfl) hK (fun K' hK' => ?_)
        unfold Oper.wp
        go_simp
        exact hK' _ _ (Fr.refl _ _) rfl
      · have e3 := hG.old 3 (by kernel_rfl)
        have eg := hG.val (v := .bool false) 24 50 (hd _ rfl ⟨24, .guard⟩ (by simp) rfl) rfl rfl
        refine op_do rfl (by simp [Region.wanted, yielded, eg]) hK (fun K' hK' => ?_)
        unfold Oper.wp
        go_simp
        exact hK' _ _ (Fr.refl _ _) rfl
      · have e51 := hG.val (v := .pointer (some ⟨g, 11, none⟩)) 25 51 (hd _ rfl ⟨25, .data⟩ (by simp) rfl) rfl rfl
        have eg := hG.val (v := .bool false) 24 50 (hd _ rfl ⟨24, .guard⟩ (by simp) rfl) rfl rfl
        have hq := HG11.out W1 hG.grown
        refine op_do rfl (by simp [Region.wanted, yielded, eg]) hK (fun K' hK' => ?_)
        unfold Oper.wp
        go_simp
        exact hK' _ _ (Fr.refl _ _) rfl
      · have e1 := hG.old 1 (by kernel_rfl)
        have eg := hG.val (v := .bool false) 24 50 (hd _ rfl ⟨24, .guard⟩ (by simp) rfl) rfl rfl
        refine op_do rfl (by simp [Region.wanted, yielded, eg]) hK (fun K' hK' => ?_)
        unfold Oper.wp
        go_simp
        exact hK' _ _ (Fr.refl _ _) rfl
      · have e53 := hG.val (v := .pointer (some ⟨bx, 11, none⟩)) 27 53 (hd _ rfl ⟨27, .data⟩ (by simp) rfl) rfl rfl
        have eg := hG.val (v := .bool false) 24 50 (hd _ rfl ⟨24, .guard⟩ (by simp) rfl) rfl rfl
        have hq := HB11.out W1 hG.grown
        refine op_do rfl (by simp [Region.wanted, yielded, eg]) hK (fun K' hK' => ?_)
        unfold Oper.wp
        go_simp
        exact hK' _ _ (Fr.refl _ _) rfl
      · have e52 := hG.val (v := .slice pu N cu) 26 52 (hd _ rfl ⟨26, .data⟩ (by simp) rfl) rfl rfl
        have e54 := hG.val (v := .slice p N c) 28 54 (hd _ rfl ⟨28, .data⟩ (by simp) rfl) rfl rfl
        have eg := hG.val (v := .bool false) 24 50 (hd _ rfl ⟨24, .guard⟩ (by simp) rfl) rfl rfl
        refine op_do rfl (by simp [Region.wanted, yielded, eg]) hK (fun K' hK' => ?_)
        unfold Oper.wp
        go_simp
        refine (HLF.out W1 hG.grown).mono ?_
        rintro e W2 ⟨rfl, hf⟩
        exact hK' _ _ hf rfl
      · have e55 := hG.val (v := .bool true) 29 55 (hd _ rfl ⟨29, .data⟩ (by simp) rfl) rfl rfl
        have eg := hG.val (v := .bool false) 24 50 (hd _ rfl ⟨24, .guard⟩ (by simp) rfl) rfl rfl
        refine op_do rfl (by simp [Region.wanted, yielded, eg]) hK (fun K' hK' => ?_)
        unfold Oper.wp
        go_simp
        exact hK' _ _ (Fr.refl _ _) rfl
      · have e50 := hG.val (v := .bool false) 24 50 (hd _ rfl ⟨24, .data⟩ (by simp) rfl) rfl rfl
        have e56 := hG.val (v := .bool false) 30 56 (hd _ rfl ⟨30, .data⟩ (by simp) rfl) rfl rfl
        refine op_do rfl (wanted_none rfl) hK (fun K' hK' => ?_)
        unfold Oper.wp
        go_simp
        exact hK' _ _ (Fr.refl _ _) rfl
    · intro vs W1 f1 hv
      have r0 : vs 0 = .string X := hv 0 26 (by decide) rfl
      have r1 : vs 1 = .string X := hv 1 27 (by decide) rfl
      have r2 : vs 2 = .bool false := hv 2 28 (by decide) rfl
      have r3 : vs 3 = .bool false := hv 3 29 (by decide) rfl
      have r4 : vs 4 = .int .i64 E := hv 4 30 (by decide) rfl
      have r5 : vs 5 = .int .i64 E := hv 5 31 (by decide) rfl
      have r6 : vs 6 = .bool false := hv 6 32 (by decide) rfl
      have r7 : vs 7 = .bool false := hv 7 33 (by decide) rfl
      have r8 : vs 8 = .bool false := hv 8 34 (by decide) rfl
      have r9 : vs 9 = .agg #[.int .i64 v0, .int .i64 v1, .int .i64 v2, .int .i64 v3, .int .i64 v4, .int .i64 v5, .int .i64 v6, .int .i64 v7, .int .i64 v8, .int .i64 v9, .int .i64 v10, .slice pu N cu] := hv 9 35 (by decide) rfl
      have r10 : vs 10 = .int .i64 KC := hv 10 36 (by decide) rfl
      have r11 : vs 11 = .agg #[.int .i64 v0, .int .i64 v1, .int .i64 v2, .int .i64 v3, .int .i64 v4, .int .i64 v5, .int .i64 v6, .int .i64 v7, .int .i64 v8, .int .i64 v9, .int .i64 v10, .slice p N c] := hv 11 37 (by decide) rfl
      have r12 : vs 12 = .int .i64 KC := hv 12 38 (by decide) rfl
      have r13 : vs 13 = .bool false := hv 13 39 (by decide) rfl
      have r14 : vs 14 = .bool false := hv 14 40 (by decide) rfl
      have r15 : vs 15 = .bool false := hv 15 41 (by decide) rfl
      have r16 : vs 16 = .pointer (some ⟨bx, 0, none⟩) := hv 16 42 (by decide) rfl
      have r17 : vs 17 = .agg #[.int .i64 v0, .int .i64 v1, .int .i64 v2, .int .i64 v3, .int .i64 v4, .int .i64 v5, .int .i64 v6, .int .i64 v7, .int .i64 v8, .int .i64 v9, .int .i64 v10] := hv 17 43 (by decide) rfl
      have r18 : vs 18 = .int .i64 GC := hv 18 44 (by decide) rfl
      have r19 : vs 19 = .pointer (some ⟨bx, 0, none⟩) := hv 19 45 (by decide) rfl
      have r20 : vs 20 = .agg #[.int .i64 v0, .int .i64 v1, .int .i64 v2, .int .i64 v3, .int .i64 v4, .int .i64 v5, .int .i64 v6, .int .i64 v7, .int .i64 v8, .int .i64 v9, .int .i64 v10] := hv 20 46 (by decide) rfl
      have r21 : vs 21 = .int .i64 GC := hv 21 47 (by decide) rfl
      have r22 : vs 22 = .bool false := hv 22 48 (by decide) rfl
      have r23 : vs 23 = .bool false := hv 23 49 (by decide) rfl
      have r24 : vs 24 = .bool false := hv 24 50 (by decide) rfl
      have r25 : vs 25 = .pointer (some ⟨g, 11, none⟩) := hv 25 51 (by decide) rfl
      have r26 : vs 26 = .slice pu N cu := hv 26 52 (by decide) rfl
      have r27 : vs 27 = .pointer (some ⟨bx, 11, none⟩) := hv 27 53 (by decide) rfl
      have r28 : vs 28 = .slice p N c := hv 28 54 (by decide) rfl
      have r29 : vs 29 = .bool true := hv 29 55 (by decide) rfl
      have r30 : vs 30 = .bool false := hv 30 56 (by decide) rfl
      have r31 : vs 31 = .bool false := hv 31 57 (by decide) rfl
      simp only [lay, List.foldl_cons, List.foldl_nil, r0, r1, r2, r3, r4, r5, r6, r7, r8, r9, r10, r11, r12, r13, r14, r15, r16, r17, r18, r19, r20, r21, r22, r23, r24, r25, r26, r27, r28, r29, r30, r31]
      simp only [List.setIfInBounds_toArray, List.set_cons_zero, List.set_cons_succ]
      clear hv r0 r1 r2 r3 r4 r5 r6 r7 r8 r9 r10 r11 r12 r13 r14 r15 r16 r17 r18 r19 r20 r21 r22 r23 r24 r25 r26 r27 r28 r29 r30 r31
      have H5 := Lib.hid (HF4.out.trans f1 (by simp))
      clear f1
      have H5w := Lib.hid (H0.out.2.trans H5.out (by simp))
      by_cases hE : E = 0
      · have e1 : (E != 0) = false := by rw [hE]; rfl
        have HPA := Lib.hid (parse_any W1 X m (HM.out W1 H5w.out))
        have HPP := Lib.hid (show parseP X = .ok ([v0, v1, v2, v3, v4, v5, v6, v7, v8, v9, v10], C.map Prod.fst) from by rw [HXE.out.1]; exact parse_print rfl HCFG.out (fun s hs => by obtain ⟨x, hx, rfl⟩ := List.mem_map.1 hs; exact HV.out.2.1 x hx) (by rw [← HXE.out.2]; exact hE))
        rw [HPP.out] at HPA
        clear hE
        go_wp2_with fail
        (with_reducible refine HPA.out.mono ?_)
        rintro e w6 hq
        obtain ⟨p6, c6, C6, rfl, hm6, hv6, f6⟩ := hq.lit
        rw [List.length_map, ← HN.out] at hv6 ⊢
        obtain ⟨g8, hg8⟩ : ∃ g8, g8 = w6.heap.size := ⟨_, rfl⟩
        have hz := Blk.new_at hg8 #[.int .i64 0, .int .i64 0, .int .i64 0, .int .i64 0, .int .i64 0, .int .i64 0, .int .i64 0, .int .i64 0, .int .i64 0, .int .i64 0, .int .i64 0, .slice none 0 0] 29
        have q1 := hz.can12 rfl
        rw [hg8] at q1
        have zo : scrOk #[.int .i64 v0, .int .i64 v1, .int .i64 v2, .int .i64 v3, .int .i64 v4, .int .i64 v5, .int .i64 v6, .int .i64 v7, .int .i64 v8, .int .i64 v9, .int .i64 v10, .slice p6 N c6] = true := scrC_ok (cfg := [v0, v1, v2, v3, v4, v5, v6, v7, v8, v9, v10]) rfl rfl
        obtain ⟨w7, hw7⟩ : ∃ w7, layA (w6.alloc (.cells #[.int .i64 0, .int .i64 0, .int .i64 0, .int .i64 0, .int .i64 0, .int .i64 0, .int .i64 0, .int .i64 0, .int .i64 0, .int .i64 0, .int .i64 0, .slice none 0 0] 29)) w6.heap.size #[.int .i64 v0, .int .i64 v1, .int .i64 v2, .int .i64 v3, .int .i64 v4, .int .i64 v5, .int .i64 v6, .int .i64 v7, .int .i64 v8, .int .i64 v9, .int .i64 v10, .slice p6 N c6] = w7 := ⟨_, rfl⟩
        have hb7 : Blk w7 g8 #[.int .i64 v0, .int .i64 v1, .int .i64 v2, .int .i64 v3, .int .i64 v4, .int .i64 v5, .int .i64 v6, .int .i64 v7, .int .i64 v8, .int .i64 v9, .int .i64 v10, .slice p6 N c6] 29 := by rw [← hw7, ← hg8]; exact hz.layA rfl _ rfl
        have f67 : Fr [] w6 w7 := by rw [← hw7]; exact ((Fr.refl [] w6).alloc _).layA _ _ (.inr (Nat.le_refl _))
        have HF7 := Lib.hid (show Fr [] w0 w7 from (H5.out.trans f6 (by simp)).trans f67 (by simp))
        have H7 := Lib.hid (show Blk w7 g8 #[.int .i64 v0, .int .i64 v1, .int .i64 v2, .int .i64 v3, .int .i64 v4, .int .i64 v5, .int .i64 v6, .int .i64 v7, .int .i64 v8, .int .i64 v9, .int .i64 v10, .slice p6 N c6] 29 ∧ RdT w7 (.slice p6 N c6) C6 ∧ C6.map Prod.fst = C.map Prod.fst from ⟨hb7, (hv6.fr f67).rdT, hm6⟩)
        have HW7 := Lib.hid hw7
        have HG8 := Lib.hid hg8
        clear hq hm6 hv6 f6 hg8 hz hw7 hb7 f67
        go_upto_region 9 with fail
        rw [HW7.out, ← HG8.out]
        clear q1 zo
        have hcg := run_cfg w7 g8 v0 v1 v2 v3 v4 v5 v6 v7 v8 v9 v10 _ 29 H7.out.1
        have hcb := HCF0.out w7 HF7.out
        have h11 : w7.cell? ⟨g8, 11, none⟩ = some (.slice p6 N c6) := H7.out.1.at 11 rfl
        have b11 := HC11.out w7 HF7.out
        have heq := eql_cfg w7 v0 v1 v2 v3 v4 v5 v6 v7 v8 v9 v10
        have HSM := Lib.hid (same_any w7 (.slice p6 N c6) (.slice p N c) C6 C H7.out.2.1 (HRD.out w7 HF7.out) (by have := congrArg List.length H7.out.2.2; simp at this; have := HV.out.2.2.2; omega) (by have := HV.out.2.2.2; omega) (fst_all H7.out.2.2 (P := fun s => Byt s.by') fun x hx => (HV.out.2.1 x hx).2.2.2.2) (fun x hx => (HV.out.2.1 x hx).2.2.2.2))
        rw [decide_eq_true H7.out.2.2] at HSM
        go_wp2_with fail
        (with_reducible refine HSM.out.mono ?_)
        rintro e w8 ⟨rfl, f8⟩
        have H8 := Lib.hid ((H0.out.2.trans HF7.out (by simp)).trans f8 (by simp))
        clear f8
        go_wp2
        go_ret
        exact ⟨rfl, H8.out⟩
      · have e1 : (E != 0) = true := by rw [bne_iff_ne]; exact hE
        clear hE
        go_wp2
        go_ret
        exact ⟨rfl, H5w.out⟩

end Sc
end Go.Proofs.YtbpgpjibljgiiaaDoor
