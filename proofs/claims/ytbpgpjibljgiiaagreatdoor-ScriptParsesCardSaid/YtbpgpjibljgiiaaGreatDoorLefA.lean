/-
  Lists of steps as they are handed in, and their copies. Copied: lists of steps in memory of their own, marks behind. Printed by genCop.py. same: two lists of steps. Printed by genSam.py. left: copied steps are as they were, the marks too. Printed by genLef.py.
-/
import Derived.Test.YtbpgpjibljgiiaaGreatDoorLrC
namespace Go.Proofs.YtbpgpjibljgiiaaGreatDoor
open Go.RowKit
set_option linter.unusedVariables false
set_option linter.unusedSimpArgs false
namespace Sc
/-- A list of steps that reads as C. -/
structure RdT (W : World) (v : Value) (C : List (St × Value)) : Prop where
  form : ∃ p cap, v = .slice p C.length cap ∧ C.length ≤ cap ∧ (C.length = 0 ∨ ∃ g o, p = some ⟨g, o, none⟩ ∧ ∀ (i : Nat) (x : St × Value), C[i]? = some x → ∀ j u, (x.1.cells x.2)[j]? = some u → W.cell? ⟨g, o + i * 5 + j, none⟩ = some u)
  byt : ∀ x ∈ C, Rd W x.2 (u8s x.1.by')
theorem RdT.fr {W W' : World} {v : Value} {C : List (St × Value)} (h : RdT W v C) (f : Fr [] W W') : RdT W' v C := by
  refine ⟨?_, fun x hx => (h.byt x hx).grow f⟩
  obtain ⟨p, cap, hv, hc, h0⟩ := h.form
  refine ⟨p, cap, hv, hc, h0.imp id ?_⟩
  rintro ⟨g, o, hp, hcl⟩
  exact ⟨g, o, hp, fun i x hx j u hu => (f.cell (World.block_lt_of_cell? W _ (hcl i x hx j u hu)) (by simp)).trans (hcl i x hx j u hu)⟩
theorem RdT.load {W : World} {v : Value} {C : List (St × Value)} (h : RdT W v C) {k : Nat} {x : St × Value} (hx : C[k]? = some x) :
    ∃ g o c, v = .slice (some ⟨g, o, none⟩) C.length c ∧ C.length ≤ c ∧ (loadSt ⟨g, o + k * 5, none⟩).run Tryz.prog W = .ok (x.1.val x.2) W ∧ W.cell? ⟨g, o + k * 5 + 4, none⟩ = some x.2 := by
  obtain ⟨p, cap, hv, hc, h0 | ⟨g, o, rfl, hcl⟩⟩ := h.form
  · have : k < C.length := (List.getElem?_eq_some_iff.1 hx).1
    omega
  · exact ⟨g, o, cap, hv, hc, run_loadVar_mid (P := Tryz.prog) W g (o + k * 5) 64 (x.1.cells x.2) _ (fun j u hu => hcl k x hx j u hu) Tryz.underlying64 rfl info44, hcl k x hx 4 x.2 rfl⟩
theorem StepsV.rdT {W : World} {n0 : Nat} {v : Value} {C : List (St × Value)} (h : StepsV W n0 v C) : RdT W v C := by
  refine ⟨?_, fun x hx => Rd.of_own (h.byt x hx).1⟩
  rcases h.own.2 with ⟨rfl, h0⟩ | ⟨g, cap, cur, rfl, _, hg, hc, _, _, _⟩
  · exact ⟨none, 0, by rw [h0], by omega, .inl h0⟩
  · refine ⟨_, cap, rfl, hc, .inr ⟨g, 0, rfl, fun i x hx j u hu => ?_⟩⟩
    have := h.own.cells (g := g) rfl (i * 5 + j) u (rowC_at hx j u hu)
    rw [Addr.add_lit] at this
    rw [show 0 + i * 5 + j = 0 + (i * 5 + j) by omega]
    exact this
/-- Bytes with twenty marks behind. -/
def Mk20 (W : World) (bv : Value) (l : List Int) : Prop :=
  ∃ g cap cur, bv = .slice (some ⟨g, 0, none⟩) l.length cap ∧ W.heap[g]? = some (.cells cur 5 (0, 0)) ∧ cur.size = cap ∧ cap ≤ maxLen ∧ l.length + 20 ≤ cap ∧ cur.toList.take (l.length + 20) = u8s (l ++ List.replicate 20 165)
theorem Mk20.fr {W W' : World} {S : List Nat} {bv : Value} {l : List Int} (h : Mk20 W bv l) (f : Fr S W W') (hs : ∀ g, bv.ownBlock = some g → g ∉ S) : Mk20 W' bv l := by
  obtain ⟨g, cap, cur, rfl, h1, h2⟩ := h
  exact ⟨g, cap, cur, rfl, (f.block g (Array.getElem?_eq_some_iff.1 h1).1 (hs g rfl)).trans h1, h2⟩
theorem Mk20.byt {W : World} {n0 : Nat} {bv : Value} {l : List Int} (h : Mk20 W bv l) (hn : ∀ g, bv.ownBlock = some g → n0 ≤ g) : BytV W n0 bv l := by
  obtain ⟨g, cap, cur, rfl, h1, h2, h3, h4, h5⟩ := h
  refine ⟨⟨by simp [u8s], .inr ⟨g, cap, cur, rfl, Nat.zero_le _, h1, by omega, h3, by omega, ?_⟩⟩, hn⟩
  rw [Nat.mul_one]
  have := congrArg (List.take l.length) h5
  rw [List.take_take, Nat.min_eq_left (by omega)] at this
  rw [this]
  unfold u8s
  rw [List.map_append, List.take_left' (by simp)]
structure CopV (W : World) (n0 : Nat) (v : Value) (C : List (St × Value)) : Prop where
  st : StepsV W n0 v C
  mk20 : ∀ x ∈ C, Mk20 W x.2 x.1.by'
/-- append onto nothing of what reads so. -/
theorem wpList_first (w : World) {ops : Array Oper} {rest : List Oper} {o : Oper} {a : Act} {Q : Exit → Act → World → Prop} (l : List Int)
    (hg : o.guard = none) (s x : Operand) (hop : o.op = Op.call { callee := Callee.builtin Builtin.append, args := #[s, x], argTypes := #[62, 62] })
    (hs : a.eval s = .slice none 0 0) (xv : Value) (hx : a.eval x = xv) (hrd : Rd w xv (u8s l)) (hb : l.length ≤ 140737488355328)
    (hK : ∀ v' w', w'.ownsRow 0 5 1 v' l.length (u8s l) → Fr [] w w' → (∀ g, v'.ownBlock = some g → w.heap.size ≤ g) → wpList Tryz.prog ops Q rest (a.put o.dst v') w') :
    wpList Tryz.prog ops Q (o :: rest) a w := by
  obtain ⟨p, cap, rfl, hc, h0⟩ := hrd
  have hlu : (u8s l).length = l.length := by simp [u8s]
  rw [hlu] at hx hc h0
  rcases h0 with h0 | ⟨g, o', rfl, hcl⟩
  · have : l = [] := List.length_eq_zero_iff.1 h0
    subst this
    obtain ⟨i, hi, hz, hsz, hby⟩ := info_parts infoU8
    refine wpList_plain hg fun K hK' => ?_
    have hrun : (Builtin.append_ #[62, 62] o.type #[.slice none 0 0, .slice p 0 cap]).run Tryz.prog w = .ok (.slice none 0 0) w := by
      cases p <;> simp [Builtin.append_, run_underlying Tryz.underlying62, sizeOf, typeInfo, hi, Builtin.lenOf, Builtin.firstCells, loadCells, loadCellsFrom]
    unfold Oper.wp execOp
    have hx : a.eval x = .slice p 0 cap := hx
    simp only [hop, resolve, invoke, builtin, Sem.run_bind, Sem.run_pure, Result.andThen_ok, List.map_toArray, List.map_cons, List.map_nil, hs, hx, hrun]
    exact hK' _ _ (hK _ _ (World.ownsRow_nil _ _ _ _) (Fr.refl _ _) (by simp [Value.ownBlock]))
  · refine wpList_app w hg s x 62 hop 5 (.int .u8 0) 1 1 Tryz.underlying62 infoU8 rfl (by decide) (.slice none 0 0) 0 [] hs (World.ownsRow_nil _ _ _ _) ⟨g, o', none⟩ l.length cap (u8s l) hx (by rw [hlu, Nat.mul_one]) (fun j u hu => by rw [Addr.add_lit]; exact hcl j u hu) (u8s_one l) (by unfold maxLen; omega) (by omega) ?_
    intro v' w' happ
    refine hK v' w' (by have := happ.own; simpa using this) (by have := happ.fr; simpa [Value.ownBlock] using this) (fun g hg => ?_)
    rcases happ.place with q | q
    · rw [q] at hg; simp [Value.ownBlock] at hg
    · rw [q] at hg; cases hg; exact Nat.le_refl _
end Sc
end Go.Proofs.YtbpgpjibljgiiaaGreatDoor
namespace Go.Proofs.YtbpgpjibljgiiaaGreatDoor
open Go.RowKit
set_option linter.unusedVariables false
set_option linter.unusedSimpArgs false
attribute [local go_sem] Oper.semAt_some
namespace Sc
def Copied1 (w : World) (C : List (St × Value)) (e : Ending) (w' : World) : Prop := ∃ v C', e = .returned v ∧ C'.map Prod.fst = C.map Prod.fst ∧ CopV w' w.heap.size v C' ∧ Fr [] w w'
/-- What holds at the head of the outer loop. -/
structure CI (w : World) (C : List (St × Value)) (i : Nat) (v : Value) (W : World) : Prop where
  ex : ∃ C', C'.map Prod.fst = (C.take i).map Prod.fst ∧ CopV W w.heap.size v C'
  fr : Fr [] w W
end Sc
end Go.Proofs.YtbpgpjibljgiiaaGreatDoor
namespace Go.Proofs.YtbpgpjibljgiiaaGreatDoor
open Go.RowKit
set_option linter.unusedVariables false
set_option linter.unusedSimpArgs false
attribute [local go_sem] Oper.semAt_some
namespace Sc
set_option maxRecDepth 100000 in
set_option maxHeartbeats 8000000 in
theorem same_any (w : World) (va vb : Value) (C D : List (St × Value)) (ha : RdT w va C) (hb : RdT w vb D) (hna : C.length ≤ 2513169434917) (hnb : D.length ≤ 2513169434917) (hba : ∀ x ∈ C, Byt x.1.by') (hbb : ∀ x ∈ D, Byt x.1.by') :
    Calls Tryz.prog 7 #[va, vb] w fun e w' => e = .returned (.bool (decide (C.map Prod.fst = D.map Prod.fst))) ∧ Fr [] w w' := by
  obtain ⟨R, hR⟩ : ∃ R, R = decide (C.map Prod.fst = D.map Prod.fst) := ⟨_, rfl⟩
  rw [← hR]
  have HR := Lib.hid hR
  obtain ⟨pa, ca, rfl, hca⟩ : ∃ p c, va = .slice p C.length c ∧ C.length ≤ c := by obtain ⟨p, c, hv, hc, -⟩ := ha.form; exact ⟨p, c, hv, hc⟩
  obtain ⟨pb, cb, rfl, hcb⟩ : ∃ p c, vb = .slice p D.length c ∧ D.length ≤ c := by obtain ⟨p, c, hv, hc, -⟩ := hb.form; exact ⟨p, c, hv, hc⟩
  have HA := Lib.hid (And.intro ha (And.intro hb (And.intro hba hbb)))
  obtain ⟨N, hN⟩ : ∃ N, N = C.length := ⟨_, rfl⟩
  obtain ⟨M, hM⟩ : ∃ M, M = D.length := ⟨_, rfl⟩
  have HN := Lib.hid (And.intro hN hM)
  rw [← hN, ← hM]
  have kca : (N : Int) ≤ (ca : Int) := by omega
  have kcb : (M : Int) ≤ (cb : Int) := by omega
  have kN : (N : Int) ≤ 2513169434917 := by omega
  clear ha hb hna hnb hba hbb hR hca hcb hN hM
  by_cases hnm : N = M
  · subst hnm
    have e0 : ((N : Int) != (N : Int)) = false := by simp
    go_enter Tryz.func7, Tryz.ntmps7
    go_wp2_with fail
    go_loopw [5] (fun iv wr => ∃ i : Nat, iv = .int .i64 i ∧ i ≤ C.length ∧ (C.take i).map Prod.fst = (D.take i).map Prod.fst ∧ Fr [] w wr) (fun iv _ => C.length - (match iv with | .int _ q => q.toNat | _ => 0))
    case atStart => exact ⟨0, rfl, Nat.zero_le _, rfl, Fr.refl _ _⟩
    case round =>
      obtain ⟨i, rfl, hi, heq, hf⟩ := hrel
      obtain ⟨wi, hwi⟩ : ∃ wi : World, wi = wr := ⟨_, rfl⟩
      rw [← hwi] at hf ⊢
      clear hwi
      have HI := Lib.hid (And.intro hi (And.intro heq hf))
      have ki0 : (0 : Int) ≤ (i : Int) := by omega
      clear hi heq hf
      by_cases hlt : i < C.length
      · have d1 : (i : Int) < (N : Int) := by rw [HN.out.1]; omega
        have hltD : i < D.length := by have := HN.out.1; have := HN.out.2; omega
        obtain ⟨x, hx⟩ : ∃ x, C[i]? = some x := ⟨_, List.getElem?_eq_getElem hlt⟩
        obtain ⟨y, hy⟩ : ∃ y, D[i]? = some y := ⟨_, List.getElem?_eq_getElem hltD⟩
        obtain ⟨ga, oa, c1, hv1, hc1, -, -⟩ := (HA.out.1.fr HI.out.2.2).load hx
        obtain ⟨gb, ob, c2, hv2, hc2, -, -⟩ := (HA.out.2.1.fr HI.out.2.2).load hy
        obtain ⟨rfl, -, rfl⟩ := Value.slice.inj hv1
        obtain ⟨rfl, -, rfl⟩ := Value.slice.inj hv2
        obtain ⟨sx, bx⟩ := x
        obtain ⟨sy, by0⟩ := y
        have HLA := Lib.hid (fun W1 (f : Fr [] wi W1) => show (loadSt ⟨ga, oa + i * 5, none⟩).run Tryz.prog W1 = .ok (.agg #[.int .u8 sx.kd, .int .i64 sx.la, .int .i64 sx.sl, .int .i64 sx.pl, bx]) W1 from by
          obtain ⟨g', o', c', h1, _, h2, -⟩ := (HA.out.1.fr (HI.out.2.2.trans f (by simp))).load hx
          have h3 := (Value.slice.inj h1).1
          simp at h3
          obtain ⟨rfl, rfl⟩ := h3
          exact h2)
        have HLB := Lib.hid (fun W1 (f : Fr [] wi W1) => show (loadSt ⟨gb, ob + i * 5, none⟩).run Tryz.prog W1 = .ok (.agg #[.int .u8 sy.kd, .int .i64 sy.la, .int .i64 sy.sl, .int .i64 sy.pl, by0]) W1 from by
          obtain ⟨g', o', c', h1, _, h2, -⟩ := (HA.out.2.1.fr (HI.out.2.2.trans f (by simp))).load hy
          have h3 := (Value.slice.inj h1).1
          simp at h3
          obtain ⟨rfl, rfl⟩ := h3
          exact h2)
        obtain ⟨r, hr⟩ : ∃ r, r = decide (sx = sy) := ⟨_, rfl⟩
        have HSM := Lib.hid (fun W1 (f : Fr [] wi W1) => show Calls Tryz.prog 22 #[.agg #[.int .u8 sx.kd, .int .i64 sx.la, .int .i64 sx.sl, .int .i64 sx.pl, bx], .agg #[.int .u8 sy.kd, .int .i64 sy.la, .int .i64 sy.sl, .int .i64 sy.pl, by0]] W1 fun e w' => e = .returned (.bool r) ∧ Fr [] W1 w' from by
          rw [hr]
          exact same_step_any W1 sx sy bx by0 ((HA.out.1.fr (HI.out.2.2.trans f (by simp))).byt _ (List.mem_of_getElem? hx)) ((HA.out.2.1.fr (HI.out.2.2.trans f (by simp))).byt _ (List.mem_of_getElem? hy)) (HA.out.2.2.1 _ (List.mem_of_getElem? hx)) (HA.out.2.2.2 _ (List.mem_of_getElem? hy)))
        have HXY := Lib.hid (show C[i]? = some (sx, bx) ∧ D[i]? = some (sy, by0) ∧ r = decide (sx = sy) from ⟨hx, hy, hr⟩)
        have HLT := Lib.hid hlt
        clear hx hy hr hv1 hv2 hc1 hc2 hlt hltD
        go_wp2_with fail
        refine region_grow (by kernel_rfl) (by kernel_rfl) [.is (.slice (some ⟨ga, oa, none⟩) N ca), .is (.int .i64 i), .is (.pointer (some ⟨ga, oa + i * 5, none⟩)), .is (.agg #[.int .u8 sx.kd, .int .i64 sx.la, .int .i64 sx.sl, .int .i64 sx.pl, bx]), .is (.slice (some ⟨gb, ob, none⟩) N cb), .is (.int .i64 i), .is (.pointer (some ⟨gb, ob + i * 5, none⟩)), .is (.agg #[.int .u8 sy.kd, .int .i64 sy.la, .int .i64 sy.sl, .int .i64 sy.pl, by0]), .is (.bool r), .is (.bool (!r))] 27 rfl (by kernel_rfl) [(0, 17), (1, 18), (2, 19), (3, 20), (4, 21), (5, 22), (6, 23), (7, 24), (8, 25), (9, 26)] (by kernel_rfl) ?_ ?_
        · intro q a1 W1 i hi hnq hd hG K hK
          have hlt : i < 10 := hi
          have hc : i = 0 ∨ i = 1 ∨ i = 2 ∨ i = 3 ∨ i = 4 ∨ i = 5 ∨ i = 6 ∨ i = 7 ∨ i = 8 ∨ i = 9 := by omega
          rcases hc with rfl | rfl | rfl | rfl | rfl | rfl | rfl | rfl | rfl | rfl
          · have e0 := hG.old 0 (by kernel_rfl)
            refine op_do rfl (wanted_none rfl) hK (fun K' hK' => ?_)
            unfold Oper.wp
            go_simp
            exact hK' _ _ (Fr.refl _ _) rfl
          · have e5 := hG.old 5 (by kernel_rfl)
            refine op_do rfl (wanted_none rfl) hK (fun K' hK' => ?_)
            unfold Oper.wp
            go_simp
            exact hK' _ _ (Fr.refl _ _) rfl
          · have e17 := hG.val (v := .slice (some ⟨ga, oa, none⟩) N ca) 0 17 (hd _ rfl ⟨0, .data⟩ (by simp) rfl) rfl rfl
            have e18 := hG.val (v := .int .i64 i) 1 18 (hd _ rfl ⟨1, .data⟩ (by simp) rfl) rfl rfl
            refine op_do rfl (wanted_none rfl) hK (fun K' hK' => ?_)
            unfold Oper.wp
            go_simp
            exact hK' _ _ (Fr.refl _ _) rfl
          · have e19 := hG.val (v := .pointer (some ⟨ga, oa + i * 5, none⟩)) 2 19 (hd _ rfl ⟨2, .data⟩ (by simp) rfl) rfl rfl
            have hld := HLA.out W1 hG.grown
            refine op_do rfl (wanted_none rfl) hK (fun K' hK' => ?_)
            unfold Oper.wp
            go_simp
            exact hK' _ _ (Fr.refl _ _) rfl
          · have e1 := hG.old 1 (by kernel_rfl)
            refine op_do rfl (wanted_none rfl) hK (fun K' hK' => ?_)
            unfold Oper.wp
            go_simp
            exact hK' _ _ (Fr.refl _ _) rfl
          · have e5 := hG.old 5 (by kernel_rfl)
            refine op_do rfl (wanted_none rfl) hK (fun K' hK' => ?_)
            unfold Oper.wp
            go_simp
            exact hK' _ _ (Fr.refl _ _) rfl
          · have e21 := hG.val (v := .slice (some ⟨gb, ob, none⟩) N cb) 4 21 (hd _ rfl ⟨4, .data⟩ (by simp) rfl) rfl rfl
            have e22 := hG.val (v := .int .i64 i) 5 22 (hd _ rfl ⟨5, .data⟩ (by simp) rfl) rfl rfl
            refine op_do rfl (wanted_none rfl) hK (fun K' hK' => ?_)
            unfold Oper.wp
            go_simp
            exact hK' _ _ (Fr.refl _ _) rfl
          · have e23 := hG.val (v := .pointer (some ⟨gb, ob + i * 5, none⟩)) 6 23 (hd _ rfl ⟨6, .data⟩ (by simp) rfl) rfl rfl
            have hld := HLB.out W1 hG.grown
            refine op_do rfl (wanted_none rfl) hK (fun K' hK' => ?_)
            unfold Oper.wp
            go_simp
            exact hK' _ _ (Fr.refl _ _) rfl
          · have e20 := hG.val (v := .agg #[.int .u8 sx.kd, .int .i64 sx.la, .int .i64 sx.sl, .int .i64 sx.pl, bx]) 3 20 (hd _ rfl ⟨3, .data⟩ (by simp) rfl) rfl rfl
            have e24 := hG.val (v := .agg #[.int .u8 sy.kd, .int .i64 sy.la, .int .i64 sy.sl, .int .i64 sy.pl, by0]) 7 24 (hd _ rfl ⟨7, .data⟩ (by simp) rfl) rfl rfl
            refine op_do rfl (wanted_none rfl) hK (fun K' hK' => ?_)
            unfold Oper.wp
            go_simp
            refine (HSM.out W1 hG.grown).mono ?_
            rintro e W2 ⟨rfl, hf⟩
            exact hK' _ _ hf rfl
          · have e25 := hG.val (v := .bool r) 8 25 (hd _ rfl ⟨8, .data⟩ (by simp) rfl) rfl rfl
            refine op_do rfl (wanted_none rfl) hK (fun K' hK' => ?_)
            unfold Oper.wp
            go_simp
            exact hK' _ _ (Fr.refl _ _) rfl
        · intro vs W1 f1 hv
          have r0 : vs 0 = .slice (some ⟨ga, oa, none⟩) N ca := hv 0 17 (by decide) rfl
          have r1 : vs 1 = .int .i64 i := hv 1 18 (by decide) rfl
          have r2 : vs 2 = .pointer (some ⟨ga, oa + i * 5, none⟩) := hv 2 19 (by decide) rfl
          have r3 : vs 3 = .agg #[.int .u8 sx.kd, .int .i64 sx.la, .int .i64 sx.sl, .int .i64 sx.pl, bx] := hv 3 20 (by decide) rfl
          have r4 : vs 4 = .slice (some ⟨gb, ob, none⟩) N cb := hv 4 21 (by decide) rfl
          have r5 : vs 5 = .int .i64 i := hv 5 22 (by decide) rfl
          have r6 : vs 6 = .pointer (some ⟨gb, ob + i * 5, none⟩) := hv 6 23 (by decide) rfl
          have r7 : vs 7 = .agg #[.int .u8 sy.kd, .int .i64 sy.la, .int .i64 sy.sl, .int .i64 sy.pl, by0] := hv 7 24 (by decide) rfl
          have r8 : vs 8 = .bool r := hv 8 25 (by decide) rfl
          have r9 : vs 9 = .bool (!r) := hv 9 26 (by decide) rfl
          simp only [lay, List.foldl_cons, List.foldl_nil, r0, r1, r2, r3, r4, r5, r6, r7, r8, r9]
          simp only [List.setIfInBounds_toArray, List.set_cons_zero, List.set_cons_succ]
          clear hv r0 r1 r2 r3 r4 r5 r6 r7 r8 r9
          have HF := Lib.hid (HI.out.2.2.trans f1 (by simp))
          clear f1
          cases r with
          | true =>
            go_wp2
            exact ⟨⟨i + 1, rfl, HLT.out, by rw [List.take_add_one, List.take_add_one, HXY.out.1, HXY.out.2.1, List.map_append, List.map_append, HI.out.2.1]; show _ ++ [sx] = _ ++ [sy]; rw [of_decide_eq_true HXY.out.2.2.symm], HF.out⟩, by have := HLT.out; show C.length - ((i : Int) + 1).toNat < C.length - ((i : Nat) : Int).toNat; omega⟩
          | false =>
            obtain rfl : R = false := by
              rw [HR.out]
              refine decide_eq_false fun q => ?_
              have h1 : (C.map Prod.fst)[i]? = (D.map Prod.fst)[i]? := by rw [q]
              rw [List.getElem?_map, List.getElem?_map, HXY.out.1, HXY.out.2.1] at h1
              have h2 : sx = sy := by simpa using h1
              have h3 := HXY.out.2.2
              rw [decide_eq_true h2] at h3
              cases h3
            go_wp2
            go_ret
            exact ⟨rfl, HF.out⟩
      · obtain rfl : i = C.length := by have := HI.out.1; omega
        have d1 : ¬ ((C.length : Int) < (N : Int)) := by rw [HN.out.1]; omega
        have d2 : (N : Int) ≤ (C.length : Int) := by rw [HN.out.1]; exact Int.le_refl _
        obtain rfl : R = true := by
          have h1 := HI.out.2.1
          have h2 := HN.out
          rw [List.take_of_length_le (Nat.le_refl _), List.take_of_length_le (by omega)] at h1
          rw [HR.out, decide_eq_true h1]
        clear hlt
        go_wp2
        go_ret
        exact ⟨rfl, HI.out.2.2⟩
  · have e0 : ((N : Int) != (M : Int)) = true := by rw [bne_iff_ne]; omega
    obtain rfl : R = false := by
      rw [HR.out]
      refine decide_eq_false fun q => hnm ?_
      have := congrArg List.length q
      simp at this
      have h2 := HN.out
      omega
    clear hnm
    go_enter Tryz.func7, Tryz.ntmps7
    go_wp2
    go_ret
    exact ⟨rfl, Fr.refl _ _⟩
end Sc
end Go.Proofs.YtbpgpjibljgiiaaGreatDoor
namespace Go.Proofs.YtbpgpjibljgiiaaGreatDoor
open Go.RowKit
set_option linter.unusedVariables false
set_option linter.unusedSimpArgs false
attribute [local go_sem] Oper.semAt_some
namespace Sc
theorem CopV.fr {W W' : World} {n0 : Nat} {v : Value} {C : List (St × Value)} (h : CopV W n0 v C) (f : Fr [] W W') : CopV W' n0 v C := ⟨h.st.fr f, fun x hx => (h.mk20 x hx).fr f (by simp)⟩
end Sc
end Go.Proofs.YtbpgpjibljgiiaaGreatDoor
