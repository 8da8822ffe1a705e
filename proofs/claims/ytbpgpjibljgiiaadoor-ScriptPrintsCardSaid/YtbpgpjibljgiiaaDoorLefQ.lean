/-
  Lists of steps as they are handed in, and their copies. Copied: lists of steps in memory of their own, marks behind. Printed by genCop.py. same: two lists of steps. Printed by genSam.py. left: copied steps are as they were, the marks too. Printed by genLef.py.
  Script, plain: a step's line reads back as the step; a line that reads is the line of what was read. No program stands here.
-/
import Derived.Test.YtbpgpjibljgiiaaDoorLrC
namespace Go.Proofs.YtbpgpjibljgiiaaDoor
open Go.RowKit
set_option linter.unusedVariables false
set_option linter.unusedSimpArgs false
namespace Sc
/-- A list of steps that reads as C. -/
structure RdT (W : World) (v : Value) (C : List (St × Value)) : Prop where
  form : ∃ p cap, v = .slice p C.length cap ∧ C.length ≤ cap ∧ (C.length = 0 ∨ ∃ g o, p = some ⟨g, o, none⟩ ∧ ∀ (i : Nat) (x : St × Value), C[i]? = some x → ∀ j u, (x.1.cells x.2)[j]? = some u → W.cell? ⟨g, o + i * 5 + j, none⟩ = some u)
  byt : ∀ x ∈ C, Rd W x.2 (u8s x.1.by')
theorem RdT.fr {W W' : World} {v : Value} {C : List (St × Value)} (h : RdT W v C) (f : Fr [] W W') : RdT W' v C := by
  refine ⟨?_, fun x hx => (h.byt x hx).grow f⟩
  obtain ⟨p, cap, hv, hc, h0⟩ := h.form
  refine ⟨p, cap, hv, hc, h0.imp id ?_⟩
  rintro ⟨g, o, hp, hcl⟩
  exact ⟨g, o, hp, fun i x hx j u hu => (f.cell (World.block_lt_of_cell? W _ (hcl i x hx j u hu)) (by simp)).trans (hcl i x hx j u hu)⟩
theorem RdT.load {W : World} {v : Value} {C : List (St × Value)} (h : RdT W v C) {k : Nat} {x : St × Value} (hx : C[k]? = some x) :
    ∃ g o c, v = .slice (some ⟨g, o, none⟩) C.length c ∧ C.length ≤ c ∧ (loadSt ⟨g, o + k * 5, none⟩).run Tryd.prog W = .ok (x.1.val x.2) W ∧ W.cell? ⟨g, o + k * 5 + 4, none⟩ = some x.2 := by
  obtain ⟨p, cap, hv, hc, h0 | ⟨g, o, rfl, hcl⟩⟩ := h.form
  · have : k < C.length := (List.getElem?_eq_some_iff.1 hx).1
    omega
  · exact ⟨g, o, cap, hv, hc, run_loadVar_mid (P := Tryd.prog) W g (o + k * 5) 44 (x.1.cells x.2) _ (fun j u hu => hcl k x hx j u hu) Tryd.underlying44 rfl info44, hcl k x hx 4 x.2 rfl⟩
theorem StepsV.rdT {W : World} {n0 : Nat} {v : Value} {C : List (St × Value)} (h : StepsV W n0 v C) : RdT W v C := by
  refine ⟨?_, fun x hx => Rd.of_own (h.byt x hx).1⟩
  rcases h.own.2 with ⟨rfl, h0⟩ | ⟨g, cap, cur, rfl, _, hg, hc, _, _, _⟩
  · exact ⟨none, 0, by rw [h0], by omega, .inl h0⟩
  · refine ⟨_, cap, rfl, hc, .inr ⟨g, 0, rfl, fun i x hx j u hu => ?_⟩⟩
    have := h.own.cells (g := g) rfl (i * 5 + j) u (rowC_at hx j u hu)
    rw [Addr.add_lit] at this
    rw [show 0 + i * 5 + j = 0 + (i * 5 + j) by omega]
    exact this
/-- Bytes with twenty marks behind. -/
def Mk20 (W : World) (bv : Value) (l : List Int) : Prop :=
  ∃ g cap cur, bv = .slice (some ⟨g, 0, none⟩) l.length cap ∧ W.heap[g]? = some (.cells cur 5 (0, 0)) ∧ cur.size = cap ∧ cap ≤ maxLen ∧ l.length + 20 ≤ cap ∧ cur.toList.take (l.length + 20) = u8s (l ++ List.replicate 20 165)
theorem Mk20.fr {W W' : World} {S : List Nat} {bv : Value} {l : List Int} (h : Mk20 W bv l) (f : Fr S W W') (hs : ∀ g, bv.ownBlock = some g → g ∉ S) : Mk20 W' bv l := by
  obtain ⟨g, cap, cur, rfl, h1, h2⟩ := h
  exact ⟨g, cap, cur, rfl, (f.block g (Array.getElem?_eq_some_iff.1 h1).1 (hs g rfl)).trans h1, h2⟩
theorem Mk20.byt {W : World} {n0 : Nat} {bv : Value} {l : List Int} (h : Mk20 W bv l) (hn : ∀ g, bv.ownBlock = some g → n0 ≤ g) : BytV W n0 bv l := by
  obtain ⟨g, cap, cur, rfl, h1, h2, h3, h4, h5⟩ := h
  refine ⟨⟨by simp [u8s], .inr ⟨g, cap, cur, rfl, Nat.zero_le _, h1, by omega, h3, by omega, ?_⟩⟩, hn⟩
  rw [Nat.mul_one]
  have := congrArg (List.take l.length) h5
  rw [List.take_take, Nat.min_eq_left (by omega)] at this
  rw [this]
  unfold u8s
  rw [List.map_append, List.take_left' (by simp)]
structure CopV (W : World) (n0 : Nat) (v : Value) (C : List (St × Value)) : Prop where
  st : StepsV W n0 v C
  mk20 : ∀ x ∈ C, Mk20 W x.2 x.1.by'
/-- append onto nothing of what reads so. -/
theorem wpList_first (w : World) {ops : Array Oper} {rest : List Oper} {o : Oper} {a : Act} {Q : Exit → Act → World → Prop} (l : List Int)
    (hg : o.guard = none) (s x : Operand) (hop : o.op = Op.call { callee := Callee.builtin Builtin.append, args := #[s, x], argTypes := #[42, 42] })
    (hs : a.eval s = .slice none 0 0) (xv : Value) (hx : a.eval x = xv) (hrd : Rd w xv (u8s l)) (hb : l.length ≤ 140737488355328)
    (hK : ∀ v' w', w'.ownsRow 0 5 1 v' l.length (u8s l) → Fr [] w w' → (∀ g, v'.ownBlock = some g → w.heap.size ≤ g) → wpList Tryd.prog ops Q rest (a.put o.dst v') w') :
    wpList Tryd.prog ops Q (o :: rest) a w := by
  obtain ⟨p, cap, rfl, hc, h0⟩ := hrd
  have hlu : (u8s l).length = l.length := by simp [u8s]
  rw [hlu] at hx hc h0
  rcases h0 with h0 | ⟨g, o', rfl, hcl⟩
  · have : l = [] := List.length_eq_zero_iff.1 h0
    subst this
    obtain ⟨i, hi, hz, hsz, hby⟩ := info_parts infoU8
    refine wpList_plain hg fun K hK' => ?_
    have hrun : (Builtin.append_ #[42, 42] o.type #[.slice none 0 0, .slice p 0 cap]).run Tryd.prog w = .ok (.slice none 0 0) w := by
      cases p <;> simp [Builtin.append_, run_underlying Tryd.underlying42, sizeOf, typeInfo, hi, Builtin.lenOf, Builtin.firstCells, loadCells, loadCellsFrom]
    unfold Oper.wp execOp
    have hx : a.eval x = .slice p 0 cap := hx
    simp only [hop, resolve, invoke, builtin, Sem.run_bind, Sem.run_pure, Result.andThen_ok, List.map_toArray, List.map_cons, List.map_nil, hs, hx, hrun]
    exact hK' _ _ (hK _ _ (World.ownsRow_nil _ _ _ _) (Fr.refl _ _) (by simp [Value.ownBlock]))
  · refine wpList_app w hg s x 42 hop 5 (.int .u8 0) 1 1 Tryd.underlying42 infoU8 rfl (by decide) (.slice none 0 0) 0 [] hs (World.ownsRow_nil _ _ _ _) ⟨g, o', none⟩ l.length cap (u8s l) hx (by rw [hlu, Nat.mul_one]) (fun j u hu => by rw [Addr.add_lit]; exact hcl j u hu) (u8s_one l) (by unfold maxLen; omega) (by omega) ?_
    intro v' w' happ
    refine hK v' w' (by have := happ.own; simpa using this) (by have := happ.fr; simpa [Value.ownBlock] using this) (fun g hg => ?_)
    rcases happ.place with q | q
    · rw [q] at hg; simp [Value.ownBlock] at hg
    · rw [q] at hg; cases hg; exact Nat.le_refl _
end Sc
end Go.Proofs.YtbpgpjibljgiiaaDoor
namespace Go.Proofs.YtbpgpjibljgiiaaDoor
open Go.RowKit
set_option linter.unusedVariables false
set_option linter.unusedSimpArgs false
attribute [local go_sem] Oper.semAt_some
namespace Sc
def Copied1 (w : World) (C : List (St × Value)) (e : Ending) (w' : World) : Prop := ∃ v C', e = .returned v ∧ C'.map Prod.fst = C.map Prod.fst ∧ CopV w' w.heap.size v C' ∧ Fr [] w w'
/-- What holds at the head of the outer loop. -/
structure CI (w : World) (C : List (St × Value)) (i : Nat) (v : Value) (W : World) : Prop where
  ex : ∃ C', C'.map Prod.fst = (C.take i).map Prod.fst ∧ CopV W w.heap.size v C'
  fr : Fr [] w W
set_option maxRecDepth 100000 in
set_option maxHeartbeats 8000000 in
theorem copied_any (w : World) (v : Value) (C : List (St × Value)) (h : RdT w v C) (hn : C.length * 56 ≤ 140737488355328) (hb : ∀ x ∈ C, x.1.by'.length ≤ 140737488351232) :
    Calls Tryd.prog 10 #[v] w fun e w' => Copied1 w C e w' := by
  obtain ⟨p, c, rfl⟩ : ∃ p c, v = .slice p C.length c := by obtain ⟨p, c, hv, -⟩ := h.form; exact ⟨p, c, hv⟩
  have HH := Lib.hid (And.intro h (And.intro hn hb))
  obtain ⟨N, hN⟩ : ∃ N, N = C.length := ⟨_, rfl⟩
  have HN := Lib.hid hN
  rw [← hN]
  have kN : (N : Int) ≤ 2513169434917 := by omega
  clear h hn hb hN
  go_enter Tryd.func10, Tryd.ntmps10
  go_wp2_with fail
  go_loopw [3, 4] (fun v iv wr => ∃ i : Nat, iv = .int .i64 i ∧ i ≤ C.length ∧ CI w C i v wr) (fun _ iv _ => C.length - (match iv with | .int _ q => q.toNat | _ => 0))
  case atStart => exact ⟨0, rfl, Nat.zero_le _, ⟨[], rfl, ⟨⟨World.ownsRow_nil _ _ _ _, by simp [Value.ownBlock], by simp⟩, by simp⟩⟩, Fr.refl _ _⟩
  case round =>
    obtain ⟨i, rfl, hi, hI⟩ := hrel
    obtain ⟨wi, hwi⟩ : ∃ wi : World, wi = wr := ⟨_, rfl⟩
    rw [← hwi] at hI ⊢
    clear hwi
    obtain ⟨C', hC', hcv⟩ := hI.ex
    obtain ⟨pv, cv, rfl⟩ := own_form hcv.st.own
    have hlen : C'.length = i := by have := congrArg List.length hC'; simpa [List.length_take, Nat.min_eq_left hi] using this
    have HI := Lib.hid (And.intro hi (And.intro hI (And.intro hC' (And.intro hcv hlen))))
    rw [hlen]
    have ki0 : (0 : Int) ≤ (i : Int) := by omega
    have kiN : (i : Int) ≤ (N : Int) := by rw [HN.out]; omega
    clear hi hI hC' hcv hlen
    by_cases hlt : i < C.length
    · have d1 : (i : Int) < (N : Int) := by rw [HN.out]; omega
      obtain ⟨x, hx⟩ : ∃ x, C[i]? = some x := ⟨_, List.getElem?_eq_getElem hlt⟩
      have HX := Lib.hid hx
      have hrd := HH.out.1.fr HI.out.2.1.fr
      obtain ⟨g, o, c', hv', hcap, hld, hc4⟩ := hrd.load hx
      obtain ⟨rfl, hvn, rfl⟩ := Value.slice.inj hv'
      have kc : (N : Int) ≤ (c : Int) := by rw [HN.out]; omega
      have hxb := hrd.byt x (List.mem_of_getElem? hx)
      obtain ⟨⟨kd, la, sl, pl, by'⟩, bv⟩ := x
      obtain ⟨bp, bc, hbe, hbc, -⟩ := hxb
      have hlu : (u8s by').length = by'.length := by simp [u8s]
      obtain ⟨n, hnn⟩ : ∃ n, n = by'.length := ⟨_, rfl⟩
      replace hbe : bv = .slice bp n bc := by have h2 : bv = .slice bp (u8s by').length bc := hbe; rw [h2, hlu, hnn]
      subst hbe
      have HBR := Lib.hid (show Rd wi (.slice bp n bc) (u8s by') from hrd.byt _ (List.mem_of_getElem? hx))
      have HNB := Lib.hid hnn
      have HBL := Lib.hid (show by'.length ≤ 140737488351232 from HH.out.2.2 _ (List.mem_of_getElem? hx))
      replace hld : (loadSt ⟨g, o + i * 5, none⟩).run Tryd.prog wi = .ok (.agg #[.int .u8 kd, .int .i64 la, .int .i64 sl, .int .i64 pl, .slice bp n bc]) wi := hld
      replace hc4 : wi.cell? ⟨g, o + i * 5 + 4, none⟩ = some (.slice bp n bc) := hc4
      have HC4 := Lib.hid hc4
      obtain ⟨xb, hxb⟩ : ∃ xb, xb = wi.heap.size := ⟨_, rfl⟩
      have q4 : can5 (wi.alloc (.cells #[.int .u8 0, .int .i64 0, .int .i64 0, .int .i64 0, .slice none 0 0] 44)) wi.heap.size = true := (Blk.new wi _ 44).can5
      have o1 : (Value.int .u8 kd).oneCell' = true := rfl
      have o2 : ∀ z : Int, (Value.int .i64 z).oneCell' = true := fun _ => rfl
      have o3 : (Value.slice bp n bc).oneCell' = true := rfl
      obtain ⟨w9, hw9⟩ : ∃ w9, layS (wi.alloc (.cells #[.int .u8 0, .int .i64 0, .int .i64 0, .int .i64 0, .slice none 0 0] 44)) wi.heap.size (.int .u8 kd) (.int .i64 la) (.int .i64 sl) (.int .i64 pl) (.slice bp n bc) = w9 := ⟨_, rfl⟩
      have f9 : Fr [] wi w9 := by rw [← hw9]; exact ((Fr.refl [] wi).alloc _).lay _ _ _ _ _ _ (.inr (Nat.le_refl _))
      have hb9 : Blk w9 xb #[.int .u8 kd, .int .i64 la, .int .i64 sl, .int .i64 pl, .slice bp n bc] 44 := by rw [← hw9, hxb]; exact (Blk.new wi _ 44).lay _ _ _ _ _
      have H9 := Lib.hid (And.intro hb9 f9)
      have HW9 := Lib.hid hw9
      have HXB := Lib.hid hxb
      have HR9 := Lib.hid (HBR.out.grow f9)
      have HLT := Lib.hid hlt
      clear hx hrd hv' hcap hc4 hvn hlu hnn hxb hw9 f9 hb9 hlt
      go_upto_region 6 with fail
      rw [HW9.out, ← HXB.out]
      clear q4 o1 o2 o3 hld
      have d4 := H9.out.1.at 4 (v := .slice bp n bc) rfl
      go_upto_region 8 with (at_builtin; go_must (refine wpList_first w9 by' rfl _ _ rfl rfl (.slice bp n bc) rfl HR9.out (by have := HBL.out; omega) ?_); intro v1 w10 hown1 hf10 hpl1; have H10 := Lib.hid (And.intro hown1 (And.intro hf10 hpl1)); clear hown1 hf10 hpl1)
      clear d4
      go_wp2_with fail
      go_loopw [6, 7] (fun b kv wr => ∃ k : Nat, kv = .int .i64 k ∧ k ≤ 20 ∧ BytV wr wi.heap.size b (by' ++ List.replicate k 165) ∧ Fr [] wi wr ∧ Blk wr xb #[.int .u8 kd, .int .i64 la, .int .i64 sl, .int .i64 pl, .slice bp n bc] 44) (fun _ kv _ => 20 - (match kv with | .int _ q => q.toNat | _ => 0))
      case atStart => exact ⟨0, rfl, Nat.zero_le _, ⟨by simpa using H10.out.1, fun g hg => Nat.le_trans H9.out.2.size (H10.out.2.2 g hg)⟩, H9.out.2.trans H10.out.2.1 (by simp), H10.out.2.1.blk H9.out.1 (by simp)⟩
      case round =>
        obtain ⟨k, rfl, hk, hbv, hfk, hxk⟩ := hrel
        obtain ⟨wj, hwj⟩ : ∃ wj : World, wj = wr := ⟨_, rfl⟩
        rw [← hwj] at hbv hfk hxk ⊢
        clear hwj
        obtain ⟨pb, cb, rfl⟩ := hbv.form
        obtain ⟨m, hm⟩ : ∃ m, (by' ++ List.replicate k 165).length = m := ⟨_, rfl⟩
        have hm2 : m = n + k := by rw [← hm, List.length_append, List.length_replicate, HNB.out]
        have HK := Lib.hid (And.intro hk (And.intro hbv (And.intro hfk hxk)))
        have HM := Lib.hid (And.intro hm hm2)
        rw [hm]
        have kk0 : (0 : Int) ≤ (k : Int) := by omega
        have kk1 : (k : Int) ≤ 20 := by omega
        clear hk hbv hfk hxk hm hm2
        by_cases hk20 : k < 20
        · have d3 : (k : Int) < 20 := by omega
          have HK20 := Lib.hid hk20
          have HOW := Lib.hid (show (wj.alloc (.cells #[.int .u8 165] 5)).ownsRow 0 5 1 (.slice pb m cb) m (u8s (by' ++ List.replicate k 165)) by rw [← HM.out.1]; exact own_fr HK.out.2.1.1 ((Fr.refl [] wj).alloc _) (by simp))
          have HNW := Lib.hid (new_list wj [.int .u8 165] 5 _ rfl)
          have HBM := Lib.hid (show m ≤ 140737488351252 by rw [HM.out.2, HNB.out]; have := HBL.out; omega)
          clear hk20
          go_wp2_with (at_builtin; go_must (refine wpList_app _ rfl _ _ 42 rfl 5 (.int .u8 0) 1 1 Tryd.underlying42 infoU8 rfl (by decide) (.slice pb m cb) m (u8s (by' ++ List.replicate k 165)) rfl HOW.out ⟨wj.heap.size, 0, none⟩ 1 1 [.int .u8 165] rfl rfl HNW.out (by simp [Value.oneCell']) (by have := HBM.out; unfold maxLen; omega) (by have := HBM.out; omega) ?_); intro v4 w4 happ; have HAP := Lib.hid happ; clear happ)
          have hlo := HK.out.2.1.2
          have fA : Fr [] wi (wj.alloc (.cells #[.int .u8 165] 5)) := HK.out.2.2.1.alloc _
          refine ⟨⟨k + 1, rfl, by have := HK20.out; omega, ⟨?_, fun g hg => ?_⟩, fA.trans HAP.out.fr (fun x hx => .inr (hlo x (by rw [HM.out.1]; simpa using hx))), HAP.out.fr.blk (HK.out.2.2.2.alloc _) (own_notin HOW.out (HK.out.2.2.2.alloc _) (by decide))⟩, by have := HK20.out; show 20 - ((k : Int) + 1).toNat < 20 - ((k : Nat) : Int).toNat; omega⟩
          · have h1 := HAP.out.own
            have h2 : (by' ++ List.replicate (k + 1) (165 : Int)) = (by' ++ List.replicate k 165) ++ [165] := by rw [List.replicate_succ', List.append_assoc]
            rw [h2, List.length_append, HM.out.1]
            simpa [u8s] using h1
          · rcases HAP.out.place with q | q
            · exact hlo g (by rw [HM.out.1, ← q]; exact hg)
            · rw [q] at hg; cases hg; exact fA.size
        · obtain rfl : k = 20 := by have := HK.out.1; omega
          have hrow := HK.out.2.1.1.2
          rw [HM.out.1] at hrow
          obtain ⟨gb, hpb, hgb⟩ : ∃ gb, pb = some ⟨gb, 0, none⟩ ∧ Mk20 wj (.slice (some ⟨gb, 0, none⟩) n cb) by' := by
            rcases hrow with ⟨_, h0⟩ | ⟨g', cap, cur, he, -, h1, h2, h3, h4, h5⟩
            · have := HM.out.2; omega
            · obtain ⟨e1, -, e2⟩ := Value.slice.inj he
              subst e1 e2
              refine ⟨g', rfl, g', cb, cur, by rw [HNB.out], h1, by omega, h3, by rw [← HNB.out, ← HM.out.2]; exact h2, ?_⟩
              rw [← HNB.out, ← HM.out.2]
              simpa using h5
          subst hpb
          have hcb : n + 20 ≤ cb := by
            obtain ⟨g', cap, cur, he, -, -, -, h4, -⟩ := hgb
            obtain ⟨-, -, e2⟩ := Value.slice.inj he
            rw [e2, HNB.out]; exact h4
          have kc1 : (n : Int) ≤ (cb : Int) := by omega
          have kc2 : (m : Int) ≤ (cb : Int) := by have := HM.out.2; omega
          have HGB := Lib.hid hgb
          have cc := (HK.out.2.2.1.cell (World.block_lt_of_cell? wi _ HC4.out) (by simp)).trans HC4.out
          have d4 := HK.out.2.2.2.at 4 (v := .slice bp n bc) rfl
          have g4 := HK.out.2.2.2.free 4
          obtain ⟨w12, hw12⟩ : ∃ w12, wj.setCell ⟨xb, 4, none⟩ (.slice (some ⟨gb, 0, none⟩) n cb) = w12 := ⟨_, rfl⟩
          have hb12 : Blk w12 xb #[.int .u8 kd, .int .i64 la, .int .i64 sl, .int .i64 pl, .slice (some ⟨gb, 0, none⟩) n cb] 44 := by rw [← hw12]; exact HK.out.2.2.2.set 4 _
          have f12 : Fr [xb] wj w12 := by rw [← hw12]; exact (Fr.refl _ _).setCell _ _ (.inl (by simp))
          have HW12 := Lib.hid hw12
          have H12 := Lib.hid (And.intro hb12 f12)
          clear hk20 hrow hcb hgb hw12 hb12 f12
          go_upto_region 13 with fail
          rw [HW12.out]
          clear cc d4 g4 kc1 kc2
          have q5 := H12.out.1.st
          have hnx : ∀ g, (Value.slice pv i cv).ownBlock = some g → g < wi.heap.size := fun g hg => by have h1 := HI.out.2.2.2.1.st.own; rw [HI.out.2.2.2.2] at h1; exact own_lt h1 hg
          have HOW := Lib.hid (show (w12.alloc (.cells #[.int .u8 kd, .int .i64 la, .int .i64 sl, .int .i64 pl, .slice (some ⟨gb, 0, none⟩) n cb] 44)).ownsRow 0 44 5 (.slice pv i cv) i (rowC C') by
            have h1 := HI.out.2.2.2.1.st.own
            rw [HI.out.2.2.2.2] at h1
            exact own_fr (own_fr (own_fr h1 HK.out.2.2.1 (by simp)) H12.out.2 (fun g hg hm => by have := hnx g hg; have := HXB.out; simp at hm; omega)) ((Fr.refl [] w12).alloc _) (by simp))
          have HNW := Lib.hid (new_list w12 [.int .u8 kd, .int .i64 la, .int .i64 sl, .int .i64 pl, .slice (some ⟨gb, 0, none⟩) n cb] 44 _ rfl)
          have HBI := Lib.hid (show (i + 1) * 56 ≤ 140737488355328 by have := HLT.out; have := HH.out.2.1; omega)
          have HNX := Lib.hid hnx
          clear hnx
          go_wp2_with (at_builtin; go_must (refine wpList_app _ rfl _ _ 27 rfl 44 zeroStep 5 56 Tryd.underlying27 infoSt rfl (by decide) (.slice pv i cv) i (rowC C') rfl HOW.out ⟨w12.heap.size, 0, none⟩ 1 1 [.int .u8 kd, .int .i64 la, .int .i64 sl, .int .i64 pl, .slice (some ⟨gb, 0, none⟩) n cb] rfl rfl HNW.out (by simp [Value.oneCell']) (by have := HBI.out; unfold maxLen; omega) HBI.out ?_); intro v5 w5 happ; have HAP := Lib.hid happ; clear happ)
          have fB : Fr [xb] wi (w12.alloc (.cells #[.int .u8 kd, .int .i64 la, .int .i64 sl, .int .i64 pl, .slice (some ⟨gb, 0, none⟩) n cb] 44)) := (((HK.out.2.2.1.mono (by simp)).trans H12.out.2 (fun x hx => .inl hx))).alloc _
          have fC := HAP.out.fr
          have hcv := HI.out.2.2.2.1
          have hkeep : ∀ {bv : Value} {l : List Int}, Mk20 wi bv l → Mk20 w5 bv l := fun {bv l} hm => (hm.fr fB (fun g hg hx => by
              obtain ⟨g', cap, cur, rfl, h1, -⟩ := hm
              simp [Value.ownBlock] at hg
              subst hg
              have := (Array.getElem?_eq_some_iff.1 h1).1
              have := HXB.out
              simp at hx; omega)).fr fC (fun g hg hx => by
              have hm2 := hm.fr fB (fun g hg hx => by
                obtain ⟨g', cap, cur, rfl, h1, -⟩ := hm
                simp [Value.ownBlock] at hg
                subst hg
                have := (Array.getElem?_eq_some_iff.1 h1).1
                have := HXB.out
                simp at hx; omega)
              obtain ⟨g', cap, cur, rfl, h1, -⟩ := hm2
              simp [Value.ownBlock] at hg
              subst hg
              exact own_ne HOW.out (by simpa using hx) (show Blk _ g' cur 5 from h1) (by decide) rfl)
          have hnew : Mk20 w5 (.slice (some ⟨gb, 0, none⟩) n cb) by' := by
            have h1 := (HGB.out.fr H12.out.2 (fun g hg hx => by
              obtain ⟨g', cap, cur, he, h1, -⟩ := HGB.out
              have e1 := (Value.slice.inj he).1
              simp at e1
              subst e1
              simp [Value.ownBlock] at hg
              subst hg
              have := Blk.ne (show Blk wj gb cur 5 from h1) HK.out.2.2.2 (by decide)
              simp at hx; omega)).fr ((Fr.refl [] w12).alloc (.cells #[.int .u8 kd, .int .i64 la, .int .i64 sl, .int .i64 pl, .slice (some ⟨gb, 0, none⟩) n cb] 44)) (by simp)
            refine h1.fr fC (fun g hg hx => ?_)
            obtain ⟨g', cap, cur, he, h2, -⟩ := h1
            have e1 := (Value.slice.inj he).1
            simp at e1
            subst e1
            simp [Value.ownBlock] at hg
            subst hg
            exact own_ne HOW.out (by simpa using hx) (show Blk _ gb cur 5 from h2) (by decide) rfl
          have fD : Fr [] w w5 := (HI.out.2.1.fr.trans fB (fun x hx => .inr (by have := HI.out.2.1.fr.size; have := HXB.out; simp at hx; omega))).trans fC (fun x hx => .inr (hcv.st.blk x (by rw [HI.out.2.2.2.2]; simpa using hx)))
          have hgbn : w.heap.size ≤ gb := Nat.le_trans HI.out.2.1.fr.size (HK.out.2.1.2 gb rfl)
          refine ⟨⟨i + 1, rfl, HLT.out, ⟨C' ++ [(⟨kd, la, sl, pl, by'⟩, .slice (some ⟨gb, 0, none⟩) n cb)], ?_, ⟨⟨?_, ?_, ?_⟩, ?_⟩⟩, fD⟩, by have := HLT.out; show C.length - ((i : Int) + 1).toNat < C.length - ((i : Nat) : Int).toNat; omega⟩
          · rw [List.map_append, HI.out.2.2.1, List.take_add_one, HX.out, List.map_append]
            rfl
          · have h1 := HAP.out.own
            rw [List.length_append, HI.out.2.2.2.2, List.length_singleton]
            simpa [rowC, St.cells] using h1
          · intro g hg
            rcases HAP.out.place with q | q
            · exact hcv.st.blk g (by rw [HI.out.2.2.2.2, ← q]; exact hg)
            · rw [q] at hg; cases hg; exact Nat.le_trans HI.out.2.1.fr.size fB.size
          · intro y hy
            simp only [List.mem_append, List.mem_singleton] at hy
            rcases hy with hy | rfl
            · exact (hkeep (hcv.mk20 y hy)).byt (hcv.st.byt y hy).2
            · exact hnew.byt (fun g hg => by simp [Value.ownBlock] at hg; omega)
          · intro y hy
            simp only [List.mem_append, List.mem_singleton] at hy
            rcases hy with hy | rfl
            · exact hkeep (hcv.mk20 y hy)
            · exact hnew
    · obtain rfl : i = C.length := by have := HI.out.1; omega
      have d1 : ¬ ((C.length : Int) < (N : Int)) := by rw [HN.out]; omega
      have d2 : (N : Int) ≤ (C.length : Int) := by rw [HN.out]; exact Int.le_refl _
      have HF := Lib.hid (show Copied1 w C (.returned (.slice pv C.length cv)) wi from ⟨_, C', by rw [← HI.out.2.2.2.2], by rw [HI.out.2.2.1, List.take_of_length_le (Nat.le_refl _)], by have := HI.out.2.2.2.1; rw [HI.out.2.2.2.2] at this; rw [HI.out.2.2.2.2]; exact this, HI.out.2.1.fr⟩)
      clear hlt
      go_wp2
      go_ret
      exact HF.out
end Sc
end Go.Proofs.YtbpgpjibljgiiaaDoor
namespace Go.Proofs.YtbpgpjibljgiiaaDoor
open Go.RowKit
set_option linter.unusedVariables false
set_option linter.unusedSimpArgs false
attribute [local go_sem] Oper.semAt_some
namespace Sc
set_option maxRecDepth 100000 in
set_option maxHeartbeats 8000000 in
theorem same_any (w : World) (va vb : Value) (C D : List (St × Value)) (ha : RdT w va C) (hb : RdT w vb D) (hna : C.length ≤ 2513169434917) (hnb : D.length ≤ 2513169434917) (hba : ∀ x ∈ C, Byt x.1.by') (hbb : ∀ x ∈ D, Byt x.1.by') :
    Calls Tryd.prog 23 #[va, vb] w fun e w' => e = .returned (.bool (decide (C.map Prod.fst = D.map Prod.fst))) ∧ Fr [] w w' := by
  obtain ⟨R, hR⟩ : ∃ R, R = decide (C.map Prod.fst = D.map Prod.fst) := ⟨_, rfl⟩
  rw [← hR]
  have HR := Lib.hid hR
  obtain ⟨pa, ca, rfl, hca⟩ : ∃ p c, va = .slice p C.length c ∧ C.length ≤ c := by obtain ⟨p, c, hv, hc, -⟩ := ha.form; exact ⟨p, c, hv, hc⟩
  obtain ⟨pb, cb, rfl, hcb⟩ : ∃ p c, vb = .slice p D.length c ∧ D.length ≤ c := by obtain ⟨p, c, hv, hc, -⟩ := hb.form; exact ⟨p, c, hv, hc⟩
  have HA := Lib.hid (And.intro ha (And.intro hb (And.intro hba hbb)))
  obtain ⟨N, hN⟩ : ∃ N, N = C.length := ⟨_, rfl⟩
  obtain ⟨M, hM⟩ : ∃ M, M = D.length := ⟨_, rfl⟩
  have HN := Lib.hid (And.intro hN hM)
  rw [← hN, ← hM]
  have kca : (N : Int) ≤ (ca : Int) := by omega
  have kcb : (M : Int) ≤ (cb : Int) := by omega
  have kN : (N : Int) ≤ 2513169434917 := by omega
  clear ha hb hna hnb hba hbb hR hca hcb hN hM
  by_cases hnm : N = M
  · subst hnm
    have e0 : ((N : Int) != (N : Int)) = false := by simp
    go_enter Tryd.func23, Tryd.ntmps23
    go_wp2_with fail
    go_loopw [5] (fun iv wr => ∃ i : Nat, iv = .int .i64 i ∧ i ≤ C.length ∧ (C.take i).map Prod.fst = (D.take i).map Prod.fst ∧ Fr [] w wr) (fun iv _ => C.length - (match iv with | .int _ q => q.toNat | _ => 0))
    case atStart => exact ⟨0, rfl, Nat.zero_le _, rfl, Fr.refl _ _⟩
    case round =>
      obtain ⟨i, rfl, hi, heq, hf⟩ := hrel
      obtain ⟨wi, hwi⟩ : ∃ wi : World, wi = wr := ⟨_, rfl⟩
      rw [← hwi] at hf ⊢
      clear hwi
      have HI := Lib.hid (And.intro hi (And.intro heq hf))
      have ki0 : (0 : Int) ≤ (i : Int) := by omega
      clear hi heq hf
      by_cases hlt : i < C.length
      · have d1 : (i : Int) < (N : Int) := by rw [HN.out.1]; omega
        have hltD : i < D.length := by have := HN.out.1; have := HN.out.2; omega
        obtain ⟨x, hx⟩ : ∃ x, C[i]? = some x := ⟨_, List.getElem?_eq_getElem hlt⟩
        obtain ⟨y, hy⟩ : ∃ y, D[i]? = some y := ⟨_, List.getElem?_eq_getElem hltD⟩
        obtain ⟨ga, oa, c1, hv1, hc1, -, -⟩ := (HA.out.1.fr HI.out.2.2).load hx
        obtain ⟨gb, ob, c2, hv2, hc2, -, -⟩ := (HA.out.2.1.fr HI.out.2.2).load hy
        obtain ⟨rfl, -, rfl⟩ := Value.slice.inj hv1
        obtain ⟨rfl, -, rfl⟩ := Value.slice.inj hv2
        obtain ⟨sx, bx⟩ := x
        obtain ⟨sy, by0⟩ := y
        have HLA := Lib.hid (fun W1 (f : Fr [] wi W1) => show (loadSt ⟨ga, oa + i * 5, none⟩).run Tryd.prog W1 = .ok (.agg #[.int .u8 sx.kd, .int .i64 sx.la, .int .i64 sx.sl, .int .i64 sx.pl, bx]) W1 from by
          obtain ⟨g', o', c', h1, _, h2, -⟩ := (HA.out.1.fr (HI.out.2.2.trans f (by simp))).load hx
          have h3 := (Value.slice.inj h1).1
          simp at h3
          obtain ⟨rfl, rfl⟩ := h3
          exact h2)
        have HLB := Lib.hid (fun W1 (f : Fr [] wi W1) => show (loadSt ⟨gb, ob + i * 5, none⟩).run Tryd.prog W1 = .ok (.agg #[.int .u8 sy.kd, .int .i64 sy.la, .int .i64 sy.sl, .int .i64 sy.pl, by0]) W1 from by
          obtain ⟨g', o', c', h1, _, h2, -⟩ := (HA.out.2.1.fr (HI.out.2.2.trans f (by simp))).load hy
          have h3 := (Value.slice.inj h1).1
          simp at h3
          obtain ⟨rfl, rfl⟩ := h3
          exact h2)
        obtain ⟨r, hr⟩ : ∃ r, r = decide (sx = sy) := ⟨_, rfl⟩
        have HSM := Lib.hid (fun W1 (f : Fr [] wi W1) => show Calls Tryd.prog 15 #[.agg #[.int .u8 sx.kd, .int .i64 sx.la, .int .i64 sx.sl, .int .i64 sx.pl, bx], .agg #[.int .u8 sy.kd, .int .i64 sy.la, .int .i64 sy.sl, .int .i64 sy.pl, by0]] W1 fun e w' => e = .returned (.bool r) ∧ Fr [] W1 w' from by
          rw [hr]
          exact same_step_any W1 sx sy bx by0 ((HA.out.1.fr (HI.out.2.2.trans f (by simp))).byt _ (List.mem_of_getElem? hx)) ((HA.out.2.1.fr (HI.out.2.2.trans f (by simp))).byt _ (List.mem_of_getElem? hy)) (HA.out.2.2.1 _ (List.mem_of_getElem? hx)) (HA.out.2.2.2 _ (List.mem_of_getElem? hy)))
        have HXY := Lib.hid (show C[i]? = some (sx, bx) ∧ D[i]? = some (sy, by0) ∧ r = decide (sx = sy) from ⟨hx, hy, hr⟩)
        have HLT := Lib.hid hlt
        clear hx hy hr hv1 hv2 hc1 hc2 hlt hltD
        go_wp2_with fail
        refine region_grow (by kernel_rfl) (by kernel_rfl) [.is (.slice (some ⟨ga, oa, none⟩) N ca), .is (.int .i64 i), .is (.pointer (some ⟨ga, oa + i * 5, none⟩)), .is (.agg #[.int .u8 sx.kd, .int .i64 sx.la, .int .i64 sx.sl, .int .i64 sx.pl, bx]), .is (.slice (some ⟨gb, ob, none⟩) N cb), .is (.int .i64 i), .is (.pointer (some ⟨gb, ob + i * 5, none⟩)), .is (.agg #[.int .u8 sy.kd, .int .i64 sy.la, .int .i64 sy.sl, .int .i64 sy.pl, by0]), .is (.bool r), .is (.bool (!r))] 27 rfl (by kernel_rfl) [(0, 17), (1, 18), (2, 19), (3, 20), (4, 21), (5, 22), (6, 23), (7, 24), (8, 25), (9, 26)] (by kernel_rfl) ?_ ?_
        · intro q a1 W1 i hi hnq hd hG K hK
          have hlt : i < 10 := hi
          have hc : i = 0 ∨ i = 1 ∨ i = 2 ∨ i = 3 ∨ i = 4 ∨ i = 5 ∨ i = 6 ∨ i = 7 ∨ i = 8 ∨ i = 9 := by omega
          rcases hc with rfl | rfl | rfl | rfl | rfl | rfl | rfl | rfl | rfl | rfl
          · have e0 := hG.old 0 (by kernel_rfl)
            refine op_do rfl (wanted_none rfl) hK (fun K' hK' => ?_)
            unfold Oper.wp
            go_simp
            exact hK' _ _ (Fr.refl _ _) rfl
          · have e5 := hG.old 5 (by kernel_rfl)
            refine op_do rfl (wanted_none rfl) hK (fun K' hK' => ?_)
            unfold Oper.wp
            go_simp
            exact hK' _ _ (Fr.refl _ _) rfl
          · have e17 := hG.val (v := .slice (some ⟨ga, oa, none⟩) N ca) 0 17 (hd _ rfl ⟨0, .data⟩ (by simp) rfl) rfl rfl
            have e18 := hG.val (v := .int .i64 i) 1 18 (hd _ rfl ⟨1, .data⟩ (by simp) rfl) rfl rfl
            refine op_do rfl (wanted_none rfl) hK (fun K' hK' => ?_)
            unfold Oper.wp
            go_simp
            exact hK' _ _ (Fr.refl _ _) rfl
          · have e19 := hG.val (v := .pointer (some ⟨ga, oa + i * 5, none⟩)) 2 19 (hd _ rfl ⟨2, .data⟩ (by simp) rfl) rfl rfl
            have hld := HLA.out W1 hG.grown
            refine op_do rfl (wanted_none rfl) hK (fun K' hK' => ?_)
            unfold Oper.wp
            go_simp
            exact hK' _ _ (Fr.refl _ _) rfl
          · have e1 := hG.old 1 (by kernel_rfl)
            refine op_do rfl (wanted_none rfl) hK (fun K' hK' => ?_)
            unfold Oper.wp
            go_simp
            exact hK' _ _ (Fr.refl _ _) rfl
          · have e5 := hG.old 5 (by kernel_rfl)
            refine op_do rfl (wanted_none rfl) hK (fun K' hK' => ?_)
            unfold Oper.wp
            go_simp
            exact hK' _ _ (Fr.refl _ _) rfl
          · have e21 := hG.val (v := .slice (some ⟨gb, ob, none⟩) N cb) 4 21 (hd _ rfl ⟨4, .data⟩ (by simp) rfl) rfl rfl
            have e22 := hG.val (v := .int .i64 i) 5 22 (hd _ rfl ⟨5, .data⟩ (by simp) rfl) rfl rfl
            refine op_do rfl (wanted_none rfl) hK (fun K' hK' => ?_)
            unfold Oper.wp
            go_simp
            exact hK' _ _ (Fr.refl _ _) rfl
          · have e23 := hG.val (v := .pointer (some ⟨gb, ob + i * 5, none⟩)) 6 23 (hd _ rfl ⟨6, .data⟩ (by simp) rfl) rfl rfl
            have hld := HLB.out W1 hG.grown
            refine op_do rfl (wanted_none rfl) hK (fun K' hK' => ?_)
            unfold Oper.wp
            go_simp
            exact hK' _ _ (Fr.refl _ _) rfl
          · have e20 := hG.val (v := .agg #[.int .u8 sx.kd, .int .i64 sx.la, .int .i64 sx.sl, .int .i64 sx.pl, bx]) 3 20 (hd _ rfl ⟨3, .data⟩ (by simp) rfl) rfl rfl
            have e24 := hG.val (v := .agg #[.int .u8 sy.kd, .int .i64 sy.la, .int .i64 sy.sl, .int .i64 sy.pl, by0]) 7 24 (hd _ rfl ⟨7, .data⟩ (by simp) rfl) rfl rfl
            refine op_do rfl (wanted_none rfl) hK (fun K' hK' => ?_)
            unfold Oper.wp
            go_simp
            refine (HSM.out W1 hG.grown).mono ?_
            rintro e W2 ⟨rfl, hf⟩
            exact hK' _ _ hf rfl
          · have e25 := hG.val (v := .bool r) 8 25 (hd _ rfl ⟨8, .data⟩ (by simp) rfl) rfl rfl
            refine op_do rfl (wanted_none rfl) hK (fun K' hK' => ?_)
            unfold Oper.wp
            go_simp
            exact hK' _ _ (Fr.refl _ _) rfl
        · intro vs W1 f1 hv
          have r0 : vs 0 = .slice (some ⟨ga, oa, none⟩) N ca := hv 0 17 (by decide) rfl
          have r1 : vs 1 = .int .i64 i := hv 1 18 (by decide) rfl
          have r2 : vs 2 = .pointer (some ⟨ga, oa + i * 5, none⟩) := hv 2 19 (by decide) rfl
          have r3 : vs 3 = .agg #[.int .u8 sx.kd, .int .i64 sx.la, .int .i64 sx.sl, .int .i64 sx.pl, bx] := hv 3 20 (by decide) rfl
          have r4 : vs 4 = .slice (some ⟨gb, ob, none⟩) N cb := hv 4 21 (by decide) rfl
          have r5 : vs 5 = .int .i64 i := hv 5 22 (by decide) rfl
          have r6 : vs 6 = .pointer (some ⟨gb, ob + i * 5, none⟩) := hv 6 23 (by decide) rfl
          have r7 : vs 7 = .agg #[.int .u8 sy.kd, .int .i64 sy.la, .int .i64 sy.sl, .int .i64 sy.pl, by0] := hv 7 24 (by decide) rfl
          have r8 : vs 8 = .bool r := hv 8 25 (by decide) rfl
          have r9 : vs 9 = .bool (!r) := hv 9 26 (by decide) rfl
          simp only [lay, List.foldl_cons, List.foldl_nil, r0, r1, r2, r3, r4, r5, r6, r7, r8, r9]
          simp only [List.setIfInBounds_toArray, List.set_cons_zero, List.set_cons_succ]
          clear hv r0 r1 r2 r3 r4 r5 r6 r7 r8 r9
          have HF := Lib.hid (HI.out.2.2.trans f1 (by simp))
          clear f1
          cases r with
          | true =>
            go_wp2
            exact ⟨⟨i + 1, rfl, HLT.out, by rw [List.take_add_one, List.take_add_one, HXY.out.1, HXY.out.2.1, List.map_append, List.map_append, HI.out.2.1]; show _ ++ [sx] = _ ++ [sy]; rw [of_decide_eq_true HXY.out.2.2.symm], HF.out⟩, by have := HLT.out; show C.length - ((i : Int) + 1).toNat < C.length - ((i : Nat) : Int).toNat; omega⟩
          | false =>
            obtain rfl : R = false := by
              rw [HR.out]
              refine decide_eq_false fun q => ?_
              have h1 : (C.map Prod.fst)[i]? = (D.map Prod.fst)[i]? := by rw [q]
              rw [List.getElem?_map, List.getElem?_map, HXY.out.1, HXY.out.2.1] at h1
              have h2 : sx = sy := by simpa using h1
              have h3 := HXY.out.2.2
              rw [decide_eq_true h2] at h3
              cases h3
            go_wp2
            go_ret
            exact ⟨rfl, HF.out⟩
      · obtain rfl : i = C.length := by have := HI.out.1; omega
        have d1 : ¬ ((C.length : Int) < (N : Int)) := by rw [HN.out.1]; omega
        have d2 : (N : Int) ≤ (C.length : Int) := by rw [HN.out.1]; exact Int.le_refl _
        obtain rfl : R = true := by
          have h1 := HI.out.2.1
          have h2 := HN.out
          rw [List.take_of_length_le (Nat.le_refl _), List.take_of_length_le (by omega)] at h1
          rw [HR.out, decide_eq_true h1]
        clear hlt
        go_wp2
        go_ret
        exact ⟨rfl, HI.out.2.2⟩
  · have e0 : ((N : Int) != (M : Int)) = true := by rw [bne_iff_ne]; omega
    obtain rfl : R = false := by
      rw [HR.out]
      refine decide_eq_false fun q => hnm ?_
      have := congrArg List.length q
      simp at this
      have h2 := HN.out
      omega
    clear hnm
    go_enter Tryd.func23, Tryd.ntmps23
    go_wp2
    go_ret
    exact ⟨rfl, Fr.refl _ _⟩
end Sc
end Go.Proofs.YtbpgpjibljgiiaaDoor
namespace Go.Proofs.YtbpgpjibljgiiaaDoor
open Go.RowKit
set_option linter.unusedVariables false
set_option linter.unusedSimpArgs false
attribute [local go_sem] Oper.semAt_some
namespace Sc
theorem CopV.fr {W W' : World} {n0 : Nat} {v : Value} {C : List (St × Value)} (h : CopV W n0 v C) (f : Fr [] W W') : CopV W' n0 v C := ⟨h.st.fr f, fun x hx => (h.mk20 x hx).fr f (by simp)⟩
set_option maxRecDepth 100000 in
set_option maxHeartbeats 8000000 in
theorem left_any (w : World) (n0 : Nat) (va vb : Value) (C D : List (St × Value)) (ha : CopV w n0 va C) (hb : RdT w vb D) (he : C.map Prod.fst = D.map Prod.fst) (hna : C.length ≤ 2513169434917) (hbl : ∀ x ∈ C, x.1.by'.length ≤ 140737488351232) (hba : ∀ x ∈ C, Byt x.1.by') :
    Calls Tryd.prog 13 #[va, vb] w fun e w' => e = .returned (.bool true) ∧ Fr [] w w' := by
  have hlen : C.length = D.length := by have := congrArg List.length he; simpa using this
  have hbb : ∀ x ∈ D, Byt x.1.by' := fun x hx => by
    have : x.1 ∈ D.map Prod.fst := List.mem_map_of_mem hx
    rw [← he] at this
    obtain ⟨y, hy, h2⟩ := List.mem_map.1 this
    rw [← h2]
    exact hba y hy
  have HS := Lib.hid (same_any w va vb C D ha.st.rdT hb hna (by omega) hba hbb)
  rw [decide_eq_true he] at HS
  obtain ⟨pa, ca, rfl⟩ := own_form ha.st.own
  obtain ⟨N, hN⟩ : ∃ N, N = C.length := ⟨_, rfl⟩
  rw [← hN] at HS ⊢
  have HN := Lib.hid hN
  have HA := Lib.hid (And.intro ha (And.intro hbl hba))
  have kN : (N : Int) ≤ 2513169434917 := by omega
  have kca : (N : Int) ≤ (ca : Int) := by
    obtain ⟨p, c, hv, hc, -⟩ := ha.st.rdT.form
    have := (Value.slice.inj hv).2.2
    omega
  clear ha hb he hna hbl hba hlen hbb hN
  go_enter Tryd.func13, Tryd.ntmps13
  go_wp2_with fail
  (with_reducible refine HS.out.mono ?_)
  rintro e w1 ⟨rfl, f1⟩
  have HF1 := Lib.hid f1
  clear f1
  go_wp2_with fail
  go_loopw [5] (fun iv wr => ∃ i : Nat, iv = .int .i64 i ∧ i ≤ C.length ∧ Fr [] w wr) (fun iv _ => C.length - (match iv with | .int _ q => q.toNat | _ => 0))
  case atStart => exact ⟨0, rfl, Nat.zero_le _, HF1.out⟩
  case round =>
    obtain ⟨i, rfl, hi, hf⟩ := hrel
    obtain ⟨wi, hwi⟩ : ∃ wi : World, wi = wr := ⟨_, rfl⟩
    rw [← hwi] at hf ⊢
    clear hwi
    have HI := Lib.hid (And.intro hi hf)
    have ki0 : (0 : Int) ≤ (i : Int) := by omega
    clear hi hf
    by_cases hlt : i < C.length
    · have d1 : (i : Int) < (N : Int) := by rw [HN.out]; omega
      obtain ⟨x, hx⟩ : ∃ x, C[i]? = some x := ⟨_, List.getElem?_eq_getElem hlt⟩
      obtain ⟨ga, oa, c1, hv1, hc1, -, -⟩ := (HA.out.1.fr HI.out.2).st.rdT.load hx
      obtain ⟨rfl, -, rfl⟩ := Value.slice.inj hv1
      have hmem := List.mem_of_getElem? hx
      obtain ⟨⟨kd, la, sl, pl, by'⟩, bv⟩ := x
      obtain ⟨g, cap, cur, hbe, hg, hcs, hcm, hle, htk⟩ := HA.out.1.mk20 _ hmem
      obtain ⟨n, hn⟩ : ∃ n, n = by'.length := ⟨_, rfl⟩
      replace hbe : bv = .slice (some ⟨g, 0, none⟩) n cap := by rw [hn]; exact hbe
      subst hbe
      have hle : by'.length + 20 ≤ cap := hle
      have htk : cur.toList.take (by'.length + 20) = u8s (by' ++ List.replicate 20 165) := htk
      have kn0 : (n : Int) ≤ 140737488351232 := by have : by'.length ≤ 140737488351232 := HA.out.2.1 _ hmem; omega
      have kcap : (n : Int) + 20 ≤ (cap : Int) := by omega
      have wadd : IntKind.i64.wrap ((n : Int) + 20) = (n : Int) + 20 := by rw [IntKind.wrap_i64]; omega
      have HMK := Lib.hid (fun W (f : Fr [] w W) (k : Nat) (h1 : n ≤ k) (h2 : k < n + 20) => show W.cell? ⟨g, k, none⟩ = some (.int .u8 165) from by
        refine (f.cell (a := ⟨g, k, none⟩) (Array.getElem?_eq_some_iff.1 hg).1 (by simp)).trans ?_
        have h3 : (u8s (by' ++ List.replicate 20 165))[k]? = some (.int .u8 165) := by
          unfold u8s
          rw [List.map_append, List.getElem?_append_right (by simp; omega), List.map_replicate, List.getElem?_replicate, if_pos (by simp; omega)]
        rw [← htk, List.getElem?_take] at h3
        split at h3
        · have h4 : cur[k]? = some (.int .u8 165) := by simpa using h3
          simp [World.cell?, hg, h4]
        · cases h3)
      have HC4 := Lib.hid (fun W1 (f : Fr [] wi W1) => show W1.cell? ⟨ga, oa + i * 5 + 4, none⟩ = some (.slice (some ⟨g, 0, none⟩) n cap) from by
        obtain ⟨g', o', c', h1, _, _, h2⟩ := (HA.out.1.fr (HI.out.2.trans f (by simp))).st.rdT.load hx
        have h3 := (Value.slice.inj h1).1
        simp at h3
        obtain ⟨rfl, rfl⟩ := h3
        exact h2)
      have HLT := Lib.hid hlt
      clear hx hmem hg hcs hcm hle htk hn hv1 hc1 hlt
      go_wp2_with fail
      refine region_grow (by kernel_rfl) (by kernel_rfl) [.is (.slice (some ⟨ga, oa, none⟩) N ca), .is (.int .i64 i), .is (.pointer (some ⟨ga, oa + i * 5, none⟩)), .is (.pointer (some ⟨ga, oa + i * 5 + 4, none⟩)), .is (.slice (some ⟨g, 0, none⟩) n cap), .is (.slice (some ⟨ga, oa, none⟩) N ca), .is (.int .i64 i), .is (.pointer (some ⟨ga, oa + i * 5, none⟩)), .is (.pointer (some ⟨ga, oa + i * 5 + 4, none⟩)), .is (.slice (some ⟨g, 0, none⟩) n cap), .is (.int .i64 n), .is (.int .i64 (n + 20)), .is (.slice (some ⟨g, 0, none⟩) (n + 20) cap), .is (.slice (some ⟨g, 0, none⟩) (n + 20) cap)] 48 rfl (by kernel_rfl) [(0, 18), (1, 19), (2, 20), (3, 21), (4, 22), (5, 23), (6, 24), (7, 25), (8, 26), (9, 27), (10, 28), (11, 29), (12, 30), (13, 6)] (by kernel_rfl) ?_ ?_
      · intro q a1 W1 i hi hnq hd hG K hK
        have hlt : i < 14 := hi
        have hc : i = 0 ∨ i = 1 ∨ i = 2 ∨ i = 3 ∨ i = 4 ∨ i = 5 ∨ i = 6 ∨ i = 7 ∨ i = 8 ∨ i = 9 ∨ i = 10 ∨ i = 11 ∨ i = 12 ∨ i = 13 := by omega
        rcases hc with rfl | rfl | rfl | rfl | rfl | rfl | rfl | rfl | rfl | rfl | rfl | rfl | rfl | rfl
        · have e0 := hG.old 0 (by kernel_rfl)
          refine op_do rfl (wanted_none rfl) hK (fun K' hK' => ?_)
          unfold Oper.wp
          go_simp
          exact hK' _ _ (Fr.refl _ _) rfl
        · have e5 := hG.old 5 (by kernel_rfl)
          refine op_do rfl (wanted_none rfl) hK (fun K' hK' => ?_)
          unfold Oper.wp
          go_simp
          exact hK' _ _ (Fr.refl _ _) rfl
        · have e18 := hG.val (v := .slice (some ⟨ga, oa, none⟩) N ca) 0 18 (hd _ rfl ⟨0, .data⟩ (by simp) rfl) rfl rfl
          have e19 := hG.val (v := .int .i64 i) 1 19 (hd _ rfl ⟨1, .data⟩ (by simp) rfl) rfl rfl
          refine op_do rfl (wanted_none rfl) hK (fun K' hK' => ?_)
          unfold Oper.wp
          go_simp
          exact hK' _ _ (Fr.refl _ _) rfl
        · have e20 := hG.val (v := .pointer (some ⟨ga, oa + i * 5, none⟩)) 2 20 (hd _ rfl ⟨2, .data⟩ (by simp) rfl) rfl rfl
          refine op_do rfl (wanted_none rfl) hK (fun K' hK' => ?_)
          unfold Oper.wp
          go_simp
          exact hK' _ _ (Fr.refl _ _) rfl
        · have e21 := hG.val (v := .pointer (some ⟨ga, oa + i * 5 + 4, none⟩)) 3 21 (hd _ rfl ⟨3, .data⟩ (by simp) rfl) rfl rfl
          have cc := HC4.out W1 hG.grown
          refine op_do rfl (wanted_none rfl) hK (fun K' hK' => ?_)
          unfold Oper.wp
          go_simp
          exact hK' _ _ (Fr.refl _ _) rfl
        · have e0 := hG.old 0 (by kernel_rfl)
          refine op_do rfl (wanted_none rfl) hK (fun K' hK' => ?_)
          unfold Oper.wp
          go_simp
          exact hK' _ _ (Fr.refl _ _) rfl
        · have e5 := hG.old 5 (by kernel_rfl)
          refine op_do rfl (wanted_none rfl) hK (fun K' hK' => ?_)
          unfold Oper.wp
          go_simp
          exact hK' _ _ (Fr.refl _ _) rfl
        · have e23 := hG.val (v := .slice (some ⟨ga, oa, none⟩) N ca) 5 23 (hd _ rfl ⟨5, .data⟩ (by simp) rfl) rfl rfl
          have e24 := hG.val (v := .int .i64 i) 6 24 (hd _ rfl ⟨6, .data⟩ (by simp) rfl) rfl rfl
          refine op_do rfl (wanted_none rfl) hK (fun K' hK' => ?_)
          unfold Oper.wp
          go_simp
          exact hK' _ _ (Fr.refl _ _) rfl
        · have e25 := hG.val (v := .pointer (some ⟨ga, oa + i * 5, none⟩)) 7 25 (hd _ rfl ⟨7, .data⟩ (by simp) rfl) rfl rfl
          refine op_do rfl (wanted_none rfl) hK (fun K' hK' => ?_)
          unfold Oper.wp
          go_simp
          exact hK' _ _ (Fr.refl _ _) rfl
        · have e26 := hG.val (v := .pointer (some ⟨ga, oa + i * 5 + 4, none⟩)) 8 26 (hd _ rfl ⟨8, .data⟩ (by simp) rfl) rfl rfl
          have cc := HC4.out W1 hG.grown
          refine op_do rfl (wanted_none rfl) hK (fun K' hK' => ?_)
          unfold Oper.wp
          go_simp
          exact hK' _ _ (Fr.refl _ _) rfl
        · have e27 := hG.val (v := .slice (some ⟨g, 0, none⟩) n cap) 9 27 (hd _ rfl ⟨9, .data⟩ (by simp) rfl) rfl rfl
          refine op_do rfl (wanted_none rfl) hK (fun K' hK' => ?_)
          unfold Oper.wp
          go_simp
          exact hK' _ _ (Fr.refl _ _) rfl
        · have e28 := hG.val (v := .int .i64 n) 10 28 (hd _ rfl ⟨10, .data⟩ (by simp) rfl) rfl rfl
          refine op_do rfl (wanted_none rfl) hK (fun K' hK' => ?_)
          unfold Oper.wp
          go_simp
          exact hK' _ _ (Fr.refl _ _) rfl
        · have e22 := hG.val (v := .slice (some ⟨g, 0, none⟩) n cap) 4 22 (hd _ rfl ⟨4, .data⟩ (by simp) rfl) rfl rfl
          have e29 := hG.val (v := .int .i64 (n + 20)) 11 29 (hd _ rfl ⟨11, .data⟩ (by simp) rfl) rfl rfl
          refine op_do rfl (wanted_none rfl) hK (fun K' hK' => ?_)
          unfold Oper.wp
          go_simp
          exact hK' _ _ (Fr.refl _ _) rfl
        · have e30 := hG.val (v := .slice (some ⟨g, 0, none⟩) (n + 20) cap) 12 30 (hd _ rfl ⟨12, .data⟩ (by simp) rfl) rfl rfl
          refine op_do rfl (wanted_none rfl) hK (fun K' hK' => ?_)
          unfold Oper.wp
          go_simp
          exact hK' _ _ (Fr.refl _ _) rfl
      · intro vs W1 f1 hv
        have r0 : vs 0 = .slice (some ⟨ga, oa, none⟩) N ca := hv 0 18 (by decide) rfl
        have r1 : vs 1 = .int .i64 i := hv 1 19 (by decide) rfl
        have r2 : vs 2 = .pointer (some ⟨ga, oa + i * 5, none⟩) := hv 2 20 (by decide) rfl
        have r3 : vs 3 = .pointer (some ⟨ga, oa + i * 5 + 4, none⟩) := hv 3 21 (by decide) rfl
        have r4 : vs 4 = .slice (some ⟨g, 0, none⟩) n cap := hv 4 22 (by decide) rfl
        have r5 : vs 5 = .slice (some ⟨ga, oa, none⟩) N ca := hv 5 23 (by decide) rfl
        have r6 : vs 6 = .int .i64 i := hv 6 24 (by decide) rfl
        have r7 : vs 7 = .pointer (some ⟨ga, oa + i * 5, none⟩) := hv 7 25 (by decide) rfl
        have r8 : vs 8 = .pointer (some ⟨ga, oa + i * 5 + 4, none⟩) := hv 8 26 (by decide) rfl
        have r9 : vs 9 = .slice (some ⟨g, 0, none⟩) n cap := hv 9 27 (by decide) rfl
        have r10 : vs 10 = .int .i64 n := hv 10 28 (by decide) rfl
        have r11 : vs 11 = .int .i64 (n + 20) := hv 11 29 (by decide) rfl
        have r12 : vs 12 = .slice (some ⟨g, 0, none⟩) (n + 20) cap := hv 12 30 (by decide) rfl
        have r13 : vs 13 = .slice (some ⟨g, 0, none⟩) (n + 20) cap := hv 13 6 (by decide) rfl
        simp only [lay, List.foldl_cons, List.foldl_nil, r0, r1, r2, r3, r4, r5, r6, r7, r8, r9, r10, r11, r12, r13]
        simp only [List.setIfInBounds_toArray, List.set_cons_zero, List.set_cons_succ]
        clear hv r0 r1 r2 r3 r4 r5 r6 r7 r8 r9 r10 r11 r12 r13
        have HF := Lib.hid (HI.out.2.trans f1 (by simp))
        have cc := HC4.out W1 f1
        clear f1
        go_wp2_with fail
        go_loopw [7] (fun kv wr => ∃ k : Nat, kv = .int .i64 k ∧ n ≤ k ∧ k ≤ n + 20 ∧ Fr [] w wr) (fun kv _ => n + 20 - (match kv with | .int _ q => q.toNat | _ => 0))
        case atStart => exact ⟨n, rfl, Nat.le_refl _, by omega, HF.out⟩
        case round =>
          obtain ⟨k, rfl, hk1, hk2, hfk⟩ := hrel
          obtain ⟨wj, hwj⟩ : ∃ wj : World, wj = wr := ⟨_, rfl⟩
          rw [← hwj] at hfk ⊢
          clear hwj
          have kk0 : (0 : Int) ≤ (k : Int) := by omega
          have kk1 : (k : Int) ≤ 140737488351272 := by omega
          have HK := Lib.hid (And.intro hk1 (And.intro hk2 hfk))
          clear hk1 hk2 hfk cc
          by_cases hkl : k < n + 20
          · have d3 : (k : Int) < (n : Int) + 20 := by omega
            have cm := HMK.out wj HK.out.2.2 k HK.out.1 hkl
            have HKL := Lib.hid hkl
            clear hkl
            go_wp2
            exact ⟨⟨k + 1, rfl, by have := HK.out.1; omega, HKL.out, HK.out.2.2⟩, by have := HKL.out; show n + 20 - ((k : Int) + 1).toNat < n + 20 - ((k : Nat) : Int).toNat; omega⟩
          · obtain rfl : k = n + 20 := by have := HK.out.2.1; omega
            clear hkl
            go_wp2
            exact ⟨⟨i + 1, rfl, HLT.out, HK.out.2.2⟩, by have := HLT.out; show C.length - ((i : Int) + 1).toNat < C.length - ((i : Nat) : Int).toNat; omega⟩
    · obtain rfl : i = C.length := by have := HI.out.1; omega
      have d1 : ¬ ((C.length : Int) < (N : Int)) := by rw [HN.out]; omega
      have d2 : (N : Int) ≤ (C.length : Int) := by rw [HN.out]; exact Int.le_refl _
      clear hlt
      go_wp2
      go_ret
      exact ⟨rfl, HI.out.2⟩
end Sc
end Go.Proofs.YtbpgpjibljgiiaaDoor
namespace Go.Proofs.YtbpgpjibljgiiaaDoor
open Go.RowKit Lib
set_option linter.unusedVariables false
set_option linter.unusedSimpArgs false
namespace Sc
def toU (n : Int) : UInt8 := UInt8.ofNat n.toNat
theorem nib_of' : ∀ d : Fin 16, nib (toU (digR (d.val : Int))) = (d.val : Int) := by decide +kernel
theorem nib_of {x : Int} (h0 : 0 ≤ x) (h1 : x < 16) : nib (toU (digR x)) = x := by
  have := nib_of' ⟨x.toNat, by omega⟩
  simpa [show ((x.toNat : Nat) : Int) = x by omega] using this
theorem dig_nib' : ∀ c : Fin 256, 0 ≤ nib (UInt8.ofNat c.val) → toU (digR (nib (UInt8.ofNat c.val))) = UInt8.ofNat c.val := by decide +kernel
theorem dig_nib {c : UInt8} (h : 0 ≤ nib c) : toU (digR (nib c)) = c := by
  have := dig_nib' ⟨c.toNat, c.toNat_lt⟩
  simp at this
  exact this h
theorem hexN'_cons (z : Int) (l : List Int) : hexN' (z :: l) = digR (z / 16) :: digR (z % 16) :: hexN' l := by simp [hexN']
theorem hexL_of : ∀ (l : List Int), Byt l → hexL ((hexN' l).map toU) = some l
  | [], _ => rfl
  | z :: l, h => by
    have hz := h z (by simp)
    have ih := hexL_of l (fun y hy => h y (by simp [hy]))
    rw [hexN'_cons, List.map_cons, List.map_cons, hexL, nib_of (by omega) (by omega), nib_of (by omega) (by omega), if_neg (by omega), ih]
    simp only [Option.map_some]
    rw [show z / 16 * 16 + z % 16 = z by omega]
theorem hexL_is : ∀ (n : Nat) (L : List UInt8) (l : List Int), L.length ≤ n → L.length % 2 = 0 → hexL L = some l → L = (hexN' l).map toU ∧ Byt l
  | n, [], l, _, _, h => by
    simp [hexL] at h
    subst h
    exact ⟨rfl, fun z hz => by cases hz⟩
  | n, [a], l, _, h2, _ => by simp at h2
  | 0, a :: b :: r, l, h1, _, _ => by simp at h1
  | n + 1, a :: b :: r, l, h1, h2, h => by
    rw [hexL] at h
    split at h
    · cases h
    · rename_i hn
      rw [Option.map_eq_some_iff] at h
      obtain ⟨t, ht, rfl⟩ := h
      obtain ⟨q1, q2⟩ := hexL_is n r t (by simp at h1; omega) (by simp at h2; omega) ht
      have ha := nib_range a
      have hb := nib_range b
      refine ⟨?_, fun z hz => ?_⟩
      · rw [hexN'_cons, List.map_cons, List.map_cons, ← q1, show (nib a * 16 + nib b) / 16 = nib a by omega, show (nib a * 16 + nib b) % 16 = nib b by omega, dig_nib (by omega), dig_nib (by omega)]
      · simp only [List.mem_cons] at hz
        rcases hz with rfl | hz
        · omega
        · exact q2 z hz
theorem strOfNums_toU (l : List Int) : (strOfNums l).data.toList = l.map toU := rfl
theorem bytL_of {l : List Int} (h : Byt l) : bytL (strOfNums (hexN l)) = some l := by
  by_cases hl : l = []
  · subst hl
    exact if_pos rfl
  · have hp := List.length_pos_iff.2 hl
    have hs : (strOfNums (hexN l)).size = 2 * l.length := by rw [strOfNums_size, hexN_len, if_neg hl]
    unfold bytL
    rw [if_neg (fun q => by have := congrArg ByteArray.size q; rw [hs] at this; have h2 : dashB.size = 1 := rfl; omega), if_neg (by rw [hs]; omega), strOfNums_toU, show hexN l = hexN' l from if_neg hl]
    exact hexL_of l h
theorem bytL_is {x : ByteArray} {l : List Int} (h : bytL x = some l) : x = strOfNums (hexN l) ∧ Byt l := by
  unfold bytL at h
  split at h
  · rename_i hd
    simp at h
    subst h hd
    exact ⟨rfl, fun z hz => by cases hz⟩
  · split at h
    · cases h
    · rename_i hs
      have hlen : x.data.toList.length = x.size := size_list x
      obtain ⟨q1, q2⟩ := hexL_is _ _ _ (Nat.le_refl _) (by omega) h
      have hl : l ≠ [] := fun e => by
        subst e
        have := congrArg List.length q1
        simp [hexN'] at this
        have h3 : x.size = 0 := by rw [← hlen]; simpa using this
        omega
      refine ⟨?_, q2⟩
      apply ByteArray.ext
      apply Array.toList_inj.1
      rw [strOfNums_toU, show hexN l = hexN' l from if_neg hl]
      exact q1
/-! No blank -/
theorem dig_blank' : ∀ d : Fin 16, toU (digR (d.val : Int)) ≠ 32 := by decide +kernel
theorem hexN'_blank : ∀ (l : List Int), Byt l → (32 : UInt8) ∉ (hexN' l).map toU
  | [], _ => by simp [hexN']
  | z :: l, h => by
    have hz := h z (by simp)
    have ih := hexN'_blank l (fun y hy => h y (by simp [hy]))
    have h1 := dig_blank' ⟨(z / 16).toNat, by omega⟩
    have h2 := dig_blank' ⟨(z % 16).toNat, by omega⟩
    simp only [show (((z / 16).toNat : Nat) : Int) = z / 16 by omega, show (((z % 16).toNat : Nat) : Int) = z % 16 by omega] at h1 h2
    rw [hexN'_cons, List.map_cons, List.map_cons]
    simp only [List.mem_cons, not_or]
    exact ⟨fun e => h1 e.symm, fun e => h2 e.symm, ih⟩
theorem hexT_blank {l : List Int} (h : Byt l) : (32 : UInt8) ∉ (strOfNums (hexN l)).data.toList := by
  rw [strOfNums_toU]
  by_cases hl : l = []
  · subst hl; decide
  · rw [show hexN l = hexN' l from if_neg hl]; exact hexN'_blank l h
theorem numT_blank (n : Int) : (32 : UInt8) ∉ (numT n).data.toList := by
  show (32 : UInt8) ∉ itoa n
  unfold itoa
  split
  · simp only [List.mem_cons, not_or]
    exact ⟨by decide, fun h => by have := dd_digit _ _ h; simp at this⟩
  · exact fun h => by have := dd_digit _ _ h; simp at this
theorem words_blank (k : Nat) : ∀ x ∈ wordsL k, (32 : UInt8) ∉ x.data.toList := by
  unfold wordsL
  split <;> decide
theorem lineL_blank {s : St} (h : Byt s.by') : ∀ x ∈ lineL s, (32 : UInt8) ∉ x.data.toList := by
  intro x hx
  unfold lineL at hx
  rcases List.mem_append.1 hx with hx | hx
  · exact words_blank _ x hx
  · unfold tailL at hx
    split at hx
    · simp at hx; subst hx; exact hexT_blank h
    · simp at hx; subst hx; exact numT_blank _
    · simp at hx
    · simp at hx
    · simp at hx
      rcases hx with rfl | rfl <;> exact numT_blank _
theorem fields_join {L : List ByteArray} (h0 : L ≠ []) (h : ∀ x ∈ L, (32 : UInt8) ∉ x.data.toList) : fieldsB (joinT L) = L := by
  obtain ⟨x, r, rfl⟩ := List.exists_cons_of_ne_nil h0
  unfold fieldsB joinT
  have := pieces_join (c := 32) x.data.toList (r.map (·.data.toList)) (fun p hp => by
    rw [← List.map_cons (f := fun (b : ByteArray) => b.data.toList)] at hp
    obtain ⟨y, hy, rfl⟩ := List.mem_map.1 hp
    exact h y hy)
  rw [List.map_cons, show ((⟨(Lib.join (x.data.toList :: r.map (·.data.toList)) [32]).toArray⟩ : ByteArray).data.toList) = Lib.join (x.data.toList :: r.map (·.data.toList)) [32] from rfl, this, List.map_cons, List.map_map]
  congr 1
  exact (List.map_congr_left fun y _ => rfl).trans (List.map_id r)
theorem join_fields (t : ByteArray) : joinT (fieldsB t) = t := by
  unfold fieldsB joinT
  rw [List.map_map]
  have : ((pieces 32 t.data.toList).map ((fun (b : ByteArray) => b.data.toList) ∘ fun l => (⟨l.toArray⟩ : ByteArray))) = pieces 32 t.data.toList := (List.map_congr_left fun y _ => rfl).trans (List.map_id _)
  rw [this, join_pieces]
/-! A printed step reads back -/
theorem numF_of {F : List ByteArray} {k : Nat} {n : Int} (hk : k < F.length) (h : fld F k = numT n) (h0 : -9223372036854775808 ≤ n) (h1 : n ≤ 9223372036854775807) : numF F k = none ∧ numN F k = n ∧ nextK F k = k + 1 := by
  have hs : scan (fld F k).data.toList = some n := by rw [h]; exact scan_itoa h0 h1
  refine ⟨?_, ?_, if_pos hk⟩
  · unfold numF; rw [if_pos hk, hs]; rfl
  · unfold numN; rw [if_pos hk, hs]; rfl
theorem over_of {F : List ByteArray} {k : Nat} (h : F.length ≤ k) : overF F k = none := if_neg (by omega)
theorem two_ok {F : List ByteArray} {k : Nat} {x y : Int} (hk : k + 1 < F.length) (h1 : fld F k = numT x) (h2 : fld F (k + 1) = numT y) (hx : -9223372036854775808 ≤ x ∧ x ≤ 9223372036854775807) (hy : -9223372036854775808 ≤ y ∧ y ≤ 9223372036854775807) :
    twoF F k = none ∧ twoS F k = x ∧ twoP F k = y ∧ twoK F k = k + 2 := by
  obtain ⟨a1, a2, a3⟩ := numF_of (by omega) h1 hx.1 hx.2
  obtain ⟨b1, b2, b3⟩ := numF_of hk h2 hy.1 hy.2
  unfold twoF twoS twoP twoK
  rw [a1, a2, a3]
  simp only [Option.isSome_none, Bool.false_eq_true, if_false]
  exact ⟨b1, trivial, b2, b3⟩
theorem reads_back {s : St} (hi : StI s) (h : mayS s = true) : stepF (lineL s) = none ∧ stepS (lineL s) = s := by
  obtain ⟨kd, la, sl, pl, by'⟩ := s
  have hk : 1 ≤ kd ∧ kd ≤ 10 := may_kind h
  have hb : (⟨kd, la, sl, pl, by'⟩ : St) = bareS ⟨kd, la, sl, pl, by'⟩ := by
    rw [may_is, Bool.and_eq_true, decide_eq_true_eq, decide_eq_true_eq] at h
    exact h.2
  have hla := hi.2.1
  have hsl := hi.2.2.1
  have hpl := hi.2.2.2.1
  have hby := hi.2.2.2.2
  have hc : kd = 1 ∨ kd = 2 ∨ kd = 3 ∨ kd = 4 ∨ kd = 5 ∨ kd = 6 ∨ kd = 7 ∨ kd = 8 ∨ kd = 9 ∨ kd = 10 := by omega
  rcases hc with rfl | rfl | rfl | rfl | rfl | rfl | rfl | rfl | rfl | rfl
  · have e : (⟨1, la, sl, pl, by'⟩ : St) = ⟨1, 0, 0, 0, by'⟩ := hb
    rw [e]
    obtain ⟨F, hF⟩ : ∃ F, F = lineL ⟨1, 0, 0, 0, by'⟩ := ⟨_, rfl⟩
    have h0 : fld F 0 = ⟨#[99, 111, 109, 109, 97, 110, 100]⟩ := by rw [hF]; rfl
    have h1 : fld F 1 = strOfNums (hexN by') := by rw [hF]; rfl
    have hl : F.length = 2 := by rw [hF]; rfl
    rw [← hF]
    have hkd : kindN (fld F 0) = 1 := by rw [h0]; decide +kernel
    have hbl : bytL (fld F 1) = some by' := by rw [h1]; exact bytL_of hby
    rw [stepF, stepS, hkd]
    have e1 : bytF F 1 = none := by unfold bytF; rw [if_pos (by omega), hbl]; rfl
    have e2 : bytN F 1 = by' := by unfold bytN; rw [if_pos (by omega), hbl]; rfl
    have e3 : nextK F 1 = 2 := if_pos (by omega)
    exact ⟨by show thenF (bytF F 1) (overF F (nextK F 1)) = none; rw [e1, e3, over_of (by omega)]; rfl, by show (⟨1, 0, 0, 0, bytN F 1⟩ : St) = _; rw [e2]⟩
  · have e : (⟨2, la, sl, pl, by'⟩ : St) = ⟨2, la, 0, 0, []⟩ := hb
    rw [e]
    obtain ⟨F, hF⟩ : ∃ F, F = lineL ⟨2, la, 0, 0, []⟩ := ⟨_, rfl⟩
    have h0 : fld F 0 = ⟨#[108, 97, 110, 101]⟩ := by rw [hF]; rfl
    have h1 : fld F 1 = numT la := by rw [hF]; rfl
    have hl : F.length = 2 := by rw [hF]; rfl
    rw [← hF]
    have hkd : kindN (fld F 0) = 2 := by rw [h0]; decide +kernel
    obtain ⟨e1, e2, e3⟩ := numF_of (by omega) h1 hla.1 hla.2
    rw [stepF, stepS, hkd]
    exact ⟨by show thenF (numF F 1) (overF F (nextK F 1)) = none; rw [e1, e3, over_of (by omega)]; rfl, by show (⟨2, numN F 1, 0, 0, []⟩ : St) = _; rw [e2]⟩
  · have e : (⟨3, la, sl, pl, by'⟩ : St) = ⟨3, 0, 0, 0, []⟩ := hb
    rw [e]
    exact ⟨by decide +kernel, by decide +kernel⟩
  · have e : (⟨4, la, sl, pl, by'⟩ : St) = ⟨4, 0, 0, 0, []⟩ := hb
    rw [e]
    exact ⟨by decide +kernel, by decide +kernel⟩
  · have e : (⟨5, la, sl, pl, by'⟩ : St) = ⟨5, 0, sl, pl, []⟩ := hb
    rw [e]
    obtain ⟨F, hF⟩ : ∃ F, F = lineL ⟨5, 0, sl, pl, []⟩ := ⟨_, rfl⟩
    have h0 : fld F 0 = ⟨#[100, 111, 119, 110]⟩ := by rw [hF]; rfl
    have h1 : fld F 1 = numT sl := by rw [hF]; rfl
    have h2 : fld F 2 = numT pl := by rw [hF]; rfl
    have hl : F.length = 3 := by rw [hF]; rfl
    rw [← hF]
    have hkd : kindN (fld F 0) = 5 := by rw [h0]; decide +kernel
    obtain ⟨e1, e2, e3, e4⟩ := two_ok (k := 1) (by omega) h1 h2 hsl hpl
    rw [stepF, stepS, hkd]
    exact ⟨by show thenF (twoF F 1) (overF F (twoK F 1)) = none; rw [e1, e4, over_of (by omega)]; rfl, by show (⟨5, 0, twoS F 1, twoP F 1, []⟩ : St) = _; rw [e2, e3]⟩
  · have e : (⟨6, la, sl, pl, by'⟩ : St) = ⟨6, 0, sl, pl, []⟩ := hb
    rw [e]
    obtain ⟨F, hF⟩ : ∃ F, F = lineL ⟨6, 0, sl, pl, []⟩ := ⟨_, rfl⟩
    have h0 : fld F 0 = ⟨#[117, 112]⟩ := by rw [hF]; rfl
    have h1 : fld F 1 = numT sl := by rw [hF]; rfl
    have h2 : fld F 2 = numT pl := by rw [hF]; rfl
    have hl : F.length = 3 := by rw [hF]; rfl
    rw [← hF]
    have hkd : kindN (fld F 0) = 6 := by rw [h0]; decide +kernel
    obtain ⟨e1, e2, e3, e4⟩ := two_ok (k := 1) (by omega) h1 h2 hsl hpl
    rw [stepF, stepS, hkd]
    exact ⟨by show thenF (twoF F 1) (overF F (twoK F 1)) = none; rw [e1, e4, over_of (by omega)]; rfl, by show (⟨6, 0, twoS F 1, twoP F 1, []⟩ : St) = _; rw [e2, e3]⟩
  · have e : (⟨7, la, sl, pl, by'⟩ : St) = ⟨7, 0, sl, pl, []⟩ := hb
    rw [e]
    obtain ⟨F, hF⟩ : ∃ F, F = lineL ⟨7, 0, sl, pl, []⟩ := ⟨_, rfl⟩
    have h0 : fld F 0 = ⟨#[108, 111, 115, 101]⟩ := by rw [hF]; rfl
    have h1 : fld F 1 = downB := by rw [hF]; rfl
    have h2 : fld F 2 = numT sl := by rw [hF]; rfl
    have h3 : fld F 3 = numT pl := by rw [hF]; rfl
    have hl : F.length = 4 := by rw [hF]; rfl
    rw [← hF]
    have hkd : kindN (fld F 0) = 7 := by rw [h0]; decide +kernel
    obtain ⟨e1, e2, e3, e4⟩ := two_ok (k := 2) (by omega) h2 h3 hsl hpl
    have hok : wayOk F 1 := ⟨by omega, .inr h1⟩
    have hd : wayD 7 F 1 = 7 := if_neg (fun q => by rw [h1] at q; exact absurd q.2 (by decide))
    rw [stepF, stepS, hkd]
    exact ⟨by show thenF (wayF F 1) (overF F (wayK F 1)) = none; rw [show wayF F 1 = twoF F 2 from if_pos hok, show wayK F 1 = twoK F 2 from if_pos hok, e1, e4, over_of (by omega)]; rfl, by show (⟨wayD 7 F 1, 0, wayS F 1, wayP F 1, []⟩ : St) = _; rw [hd, show wayS F 1 = twoS F 2 from if_pos hok, show wayP F 1 = twoP F 2 from if_pos hok, e2, e3]⟩
  · have e : (⟨8, la, sl, pl, by'⟩ : St) = ⟨8, 0, sl, pl, []⟩ := hb
    rw [e]
    obtain ⟨F, hF⟩ : ∃ F, F = lineL ⟨8, 0, sl, pl, []⟩ := ⟨_, rfl⟩
    have h0 : fld F 0 = ⟨#[108, 111, 115, 101]⟩ := by rw [hF]; rfl
    have h1 : fld F 1 = upB := by rw [hF]; rfl
    have h2 : fld F 2 = numT sl := by rw [hF]; rfl
    have h3 : fld F 3 = numT pl := by rw [hF]; rfl
    have hl : F.length = 4 := by rw [hF]; rfl
    rw [← hF]
    have hkd : kindN (fld F 0) = 7 := by rw [h0]; decide +kernel
    obtain ⟨e1, e2, e3, e4⟩ := two_ok (k := 2) (by omega) h2 h3 hsl hpl
    have hok : wayOk F 1 := ⟨by omega, .inl h1⟩
    have hd : wayD 7 F 1 = 8 := if_pos ⟨by omega, h1⟩
    rw [stepF, stepS, hkd]
    exact ⟨by show thenF (wayF F 1) (overF F (wayK F 1)) = none; rw [show wayF F 1 = twoF F 2 from if_pos hok, show wayK F 1 = twoK F 2 from if_pos hok, e1, e4, over_of (by omega)]; rfl, by show (⟨wayD 7 F 1, 0, wayS F 1, wayP F 1, []⟩ : St) = _; rw [hd, show wayS F 1 = twoS F 2 from if_pos hok, show wayP F 1 = twoP F 2 from if_pos hok, e2, e3]⟩
  · have e : (⟨9, la, sl, pl, by'⟩ : St) = ⟨9, 0, sl, pl, []⟩ := hb
    rw [e]
    obtain ⟨F, hF⟩ : ∃ F, F = lineL ⟨9, 0, sl, pl, []⟩ := ⟨_, rfl⟩
    have h0 : fld F 0 = ⟨#[116, 119, 105, 99, 101]⟩ := by rw [hF]; rfl
    have h1 : fld F 1 = downB := by rw [hF]; rfl
    have h2 : fld F 2 = numT sl := by rw [hF]; rfl
    have h3 : fld F 3 = numT pl := by rw [hF]; rfl
    have hl : F.length = 4 := by rw [hF]; rfl
    rw [← hF]
    have hkd : kindN (fld F 0) = 9 := by rw [h0]; decide +kernel
    obtain ⟨e1, e2, e3, e4⟩ := two_ok (k := 2) (by omega) h2 h3 hsl hpl
    have hok : wayOk F 1 := ⟨by omega, .inr h1⟩
    have hd : wayD 9 F 1 = 9 := if_neg (fun q => by rw [h1] at q; exact absurd q.2 (by decide))
    rw [stepF, stepS, hkd]
    exact ⟨by show thenF (wayF F 1) (overF F (wayK F 1)) = none; rw [show wayF F 1 = twoF F 2 from if_pos hok, show wayK F 1 = twoK F 2 from if_pos hok, e1, e4, over_of (by omega)]; rfl, by show (⟨wayD 9 F 1, 0, wayS F 1, wayP F 1, []⟩ : St) = _; rw [hd, show wayS F 1 = twoS F 2 from if_pos hok, show wayP F 1 = twoP F 2 from if_pos hok, e2, e3]⟩
  · have e : (⟨10, la, sl, pl, by'⟩ : St) = ⟨10, 0, sl, pl, []⟩ := hb
    rw [e]
    obtain ⟨F, hF⟩ : ∃ F, F = lineL ⟨10, 0, sl, pl, []⟩ := ⟨_, rfl⟩
    have h0 : fld F 0 = ⟨#[116, 119, 105, 99, 101]⟩ := by rw [hF]; rfl
    have h1 : fld F 1 = upB := by rw [hF]; rfl
    have h2 : fld F 2 = numT sl := by rw [hF]; rfl
    have h3 : fld F 3 = numT pl := by rw [hF]; rfl
    have hl : F.length = 4 := by rw [hF]; rfl
    rw [← hF]
    have hkd : kindN (fld F 0) = 9 := by rw [h0]; decide +kernel
    obtain ⟨e1, e2, e3, e4⟩ := two_ok (k := 2) (by omega) h2 h3 hsl hpl
    have hok : wayOk F 1 := ⟨by omega, .inl h1⟩
    have hd : wayD 9 F 1 = 10 := if_pos ⟨by omega, h1⟩
    rw [stepF, stepS, hkd]
    exact ⟨by show thenF (wayF F 1) (overF F (wayK F 1)) = none; rw [show wayF F 1 = twoF F 2 from if_pos hok, show wayK F 1 = twoK F 2 from if_pos hok, e1, e4, over_of (by omega)]; rfl, by show (⟨wayD 9 F 1, 0, wayS F 1, wayP F 1, []⟩ : St) = _; rw [hd, show wayS F 1 = twoS F 2 from if_pos hok, show wayP F 1 = twoP F 2 from if_pos hok, e2, e3]⟩
/-! A line that reads is the line of what was read -/
theorem numF_fine {F : List ByteArray} {k : Nat} (h : numF F k = none) : k < F.length ∧ nextK F k = k + 1 ∧ fld F k = numT (numN F k) ∧ -9223372036854775808 ≤ numN F k ∧ numN F k ≤ 9223372036854775807 := by
  unfold numF at h
  split at h
  · rename_i hk
    split at h
    · rename_i hs
      obtain ⟨n, hn⟩ := Option.isSome_iff_exists.1 hs
      obtain ⟨q1, q2, q3⟩ := scan_is hn
      have e : numN F k = n := by unfold numN; rw [if_pos hk, hn]; rfl
      refine ⟨hk, if_pos hk, ?_, by rw [e]; exact q2, by rw [e]; exact q3⟩
      rw [e]
      apply ByteArray.ext
      apply Array.toList_inj.1
      exact q1
    · cases h
  · cases h
theorem over_none {F : List ByteArray} {k : Nat} (h : overF F k = none) : F.length ≤ k := by
  unfold overF at h
  by_cases q : k < F.length
  · rw [if_pos q] at h; cases h
  · omega
theorem two_none {F : List ByteArray} {k : Nat} (h : twoF F k = none) : k + 1 < F.length ∧ twoK F k = k + 2 ∧ fld F k = numT (twoS F k) ∧ fld F (k + 1) = numT (twoP F k) ∧ (-9223372036854775808 ≤ twoS F k ∧ twoS F k ≤ 9223372036854775807) ∧ (-9223372036854775808 ≤ twoP F k ∧ twoP F k ≤ 9223372036854775807) := by
  unfold twoF at h
  split at h
  · rename_i hs; rw [h] at hs; cases hs
  · rename_i hs
    have h1 : numF F k = none := by simpa using hs
    obtain ⟨a1, a2, a3, a4⟩ := numF_fine h1
    rw [a2] at h
    obtain ⟨b1, b2, b3, b4⟩ := numF_fine h
    have e1 : twoS F k = numN F k := if_neg hs
    have e2 : twoP F k = numN F (k + 1) := by unfold twoP; rw [if_neg hs, a2]
    have e3 : twoK F k = k + 2 := by unfold twoK; rw [if_neg hs, a2, b2]
    rw [e1, e2]
    exact ⟨b1, e3, a3, b3, a4, b4⟩
theorem list1 {F : List ByteArray} (h : F.length = 1) : F = [fld F 0] := by match F, h with | [a], _ => rfl
theorem list2 {F : List ByteArray} (h : F.length = 2) : F = [fld F 0, fld F 1] := by match F, h with | [a, b], _ => rfl
theorem list3 {F : List ByteArray} (h : F.length = 3) : F = [fld F 0, fld F 1, fld F 2] := by match F, h with | [a, b, c], _ => rfl
theorem list4 {F : List ByteArray} (h : F.length = 4) : F = [fld F 0, fld F 1, fld F 2, fld F 3] := by match F, h with | [a, b, c, d], _ => rfl
theorem byt_nil : Byt [] := fun z hz => by cases hz
theorem prints_back {F : List ByteArray} (h0 : 0 < F.length) (h : stepF F = none) : lineL (stepS F) = F ∧ mayS (stepS F) = true ∧ StI (stepS F) := by
  have hz : (-9223372036854775808 : Int) ≤ 0 ∧ (0 : Int) ≤ 9223372036854775807 := by omega
  rcases kindN_cases (fld F 0) with hk | hk | hk | hk | hk | hk | hk | hk | hk
  · rw [stepF, hk] at h; cases h
  · rw [stepF, hk] at h
    obtain ⟨a, b⟩ := thenF_none (show thenF (bytF F 1) (overF F (nextK F 1)) = none from h)
    have hw : fld F 0 = ⟨#[99, 111, 109, 109, 97, 110, 100]⟩ := by have := kindN_is hk (by decide); exact (Option.some.inj this).symm
    have h1 : 1 < F.length := Classical.byContradiction fun q => by unfold bytF at a; rw [if_neg q] at a; cases a
    obtain ⟨l, hl⟩ : ∃ l, bytL (fld F 1) = some l := by
      cases hl : bytL (fld F 1) with
      | some l => exact ⟨l, rfl⟩
      | none => unfold bytF at a; rw [if_pos h1, hl] at a; cases a
    obtain ⟨q1, q2⟩ := bytL_is hl
    rw [show nextK F 1 = 2 from if_pos h1] at b
    have h2 := over_none b
    have e : stepS F = ⟨1, 0, 0, 0, l⟩ := by
      rw [stepS, hk]
      show (⟨1, 0, 0, 0, bytN F 1⟩ : St) = _
      unfold bytN
      rw [if_pos h1, hl]
      rfl
    rw [e]
    refine ⟨?_, rfl, ⟨by show (1 : Nat) < 256; decide, hz, hz, hz, q2⟩⟩
    have hF := list2 (F := F) (by omega)
    rw [hw, q1] at hF
    exact hF.symm
  · rw [stepF, hk] at h
    obtain ⟨a, b⟩ := thenF_none (show thenF (numF F 1) (overF F (nextK F 1)) = none from h)
    have hw : fld F 0 = ⟨#[108, 97, 110, 101]⟩ := by have := kindN_is hk (by decide); exact (Option.some.inj this).symm
    obtain ⟨h1, h2, h3, h4⟩ := numF_fine a
    rw [h2] at b
    have h5 := over_none b
    have e : stepS F = ⟨2, numN F 1, 0, 0, []⟩ := by rw [stepS, hk]; rfl
    rw [e]
    refine ⟨?_, rfl, ⟨by show (_ : Nat) < 256; simp, h4, hz, hz, byt_nil⟩⟩
    have hF := list2 (F := F) (by omega)
    rw [hw, h3] at hF
    exact hF.symm
  · rw [stepF, hk] at h
    have hw : fld F 0 = ⟨#[116, 117, 114, 110]⟩ := by have := kindN_is hk (by decide); exact (Option.some.inj this).symm
    have h5 := over_none (show overF F 1 = none from h)
    have e : stepS F = ⟨3, 0, 0, 0, []⟩ := by rw [stepS, hk]; rfl
    rw [e]
    refine ⟨?_, rfl, ⟨by show (_ : Nat) < 256; simp, hz, hz, hz, byt_nil⟩⟩
    have hF := list1 (F := F) (by omega)
    rw [hw] at hF
    exact hF.symm
  · rw [stepF, hk] at h
    have hw : fld F 0 = ⟨#[116, 105, 99, 107]⟩ := by have := kindN_is hk (by decide); exact (Option.some.inj this).symm
    have h5 := over_none (show overF F 1 = none from h)
    have e : stepS F = ⟨4, 0, 0, 0, []⟩ := by rw [stepS, hk]; rfl
    rw [e]
    refine ⟨?_, rfl, ⟨by show (_ : Nat) < 256; simp, hz, hz, hz, byt_nil⟩⟩
    have hF := list1 (F := F) (by omega)
    rw [hw] at hF
    exact hF.symm
  · rw [stepF, hk] at h
    obtain ⟨a, b⟩ := thenF_none (show thenF (twoF F 1) (overF F (twoK F 1)) = none from h)
    have hw : fld F 0 = ⟨#[100, 111, 119, 110]⟩ := by have := kindN_is hk (by decide); exact (Option.some.inj this).symm
    obtain ⟨h1, h2, h3, h4, h6, h7⟩ := two_none a
    rw [h2] at b
    have h5 := over_none b
    have e : stepS F = ⟨5, 0, twoS F 1, twoP F 1, []⟩ := by rw [stepS, hk]; rfl
    rw [e]
    refine ⟨?_, rfl, ⟨by show (_ : Nat) < 256; simp, hz, h6, h7, byt_nil⟩⟩
    have hF := list3 (F := F) (by omega)
    rw [hw, h3, h4] at hF
    exact hF.symm
  · rw [stepF, hk] at h
    obtain ⟨a, b⟩ := thenF_none (show thenF (twoF F 1) (overF F (twoK F 1)) = none from h)
    have hw : fld F 0 = ⟨#[117, 112]⟩ := by have := kindN_is hk (by decide); exact (Option.some.inj this).symm
    obtain ⟨h1, h2, h3, h4, h6, h7⟩ := two_none a
    rw [h2] at b
    have h5 := over_none b
    have e : stepS F = ⟨6, 0, twoS F 1, twoP F 1, []⟩ := by rw [stepS, hk]; rfl
    rw [e]
    refine ⟨?_, rfl, ⟨by show (_ : Nat) < 256; simp, hz, h6, h7, byt_nil⟩⟩
    have hF := list3 (F := F) (by omega)
    rw [hw, h3, h4] at hF
    exact hF.symm
  · rw [stepF, hk] at h
    obtain ⟨a, b⟩ := thenF_none (show thenF (wayF F 1) (overF F (wayK F 1)) = none from h)
    have hw : fld F 0 = ⟨#[108, 111, 115, 101]⟩ := by have := kindN_is hk (by decide); exact (Option.some.inj this).symm
    have hok : wayOk F 1 := by
      refine Classical.byContradiction fun q => ?_
      unfold wayF at a
      rw [if_neg q] at a
      by_cases z : 1 < F.length
      · rw [if_pos z] at a; cases a
      · rw [if_neg z] at a; cases a
    rw [show wayF F 1 = twoF F 2 from if_pos hok] at a
    rw [show wayK F 1 = twoK F 2 from if_pos hok] at b
    obtain ⟨h1, h2, h3, h4, h6, h7⟩ := two_none a
    rw [h2] at b
    have h5 := over_none b
    have hF := list4 (F := F) (by omega)
    rcases hok.2 with hu | hd
    · have e : stepS F = ⟨8, 0, twoS F 2, twoP F 2, []⟩ := by
        rw [stepS, hk]
        show (⟨wayD 7 F 1, 0, wayS F 1, wayP F 1, []⟩ : St) = _
        rw [show wayD 7 F 1 = 8 from if_pos ⟨by omega, hu⟩, show wayS F 1 = twoS F 2 from if_pos hok, show wayP F 1 = twoP F 2 from if_pos hok]
      rw [e]
      refine ⟨?_, rfl, ⟨by show (_ : Nat) < 256; simp, hz, h6, h7, byt_nil⟩⟩
      rw [hw, hu, h3, h4] at hF
      exact hF.symm
    · have e : stepS F = ⟨7, 0, twoS F 2, twoP F 2, []⟩ := by
        rw [stepS, hk]
        show (⟨wayD 7 F 1, 0, wayS F 1, wayP F 1, []⟩ : St) = _
        rw [show wayD 7 F 1 = 7 from if_neg (fun q => by rw [hd] at q; exact absurd q.2 (by decide)), show wayS F 1 = twoS F 2 from if_pos hok, show wayP F 1 = twoP F 2 from if_pos hok]
      rw [e]
      refine ⟨?_, rfl, ⟨by show (_ : Nat) < 256; simp, hz, h6, h7, byt_nil⟩⟩
      rw [hw, hd, h3, h4] at hF
      exact hF.symm
  · rw [stepF, hk] at h
    obtain ⟨a, b⟩ := thenF_none (show thenF (wayF F 1) (overF F (wayK F 1)) = none from h)
    have hw : fld F 0 = ⟨#[116, 119, 105, 99, 101]⟩ := by have := kindN_is hk (by decide); exact (Option.some.inj this).symm
    have hok : wayOk F 1 := by
      refine Classical.byContradiction fun q => ?_
      unfold wayF at a
      rw [if_neg q] at a
      by_cases z : 1 < F.length
      · rw [if_pos z] at a; cases a
      · rw [if_neg z] at a; cases a
    rw [show wayF F 1 = twoF F 2 from if_pos hok] at a
    rw [show wayK F 1 = twoK F 2 from if_pos hok] at b
    obtain ⟨h1, h2, h3, h4, h6, h7⟩ := two_none a
    rw [h2] at b
    have h5 := over_none b
    have hF := list4 (F := F) (by omega)
    rcases hok.2 with hu | hd
    · have e : stepS F = ⟨10, 0, twoS F 2, twoP F 2, []⟩ := by
        rw [stepS, hk]
        show (⟨wayD 9 F 1, 0, wayS F 1, wayP F 1, []⟩ : St) = _
        rw [show wayD 9 F 1 = 10 from if_pos ⟨by omega, hu⟩, show wayS F 1 = twoS F 2 from if_pos hok, show wayP F 1 = twoP F 2 from if_pos hok]
      rw [e]
      refine ⟨?_, rfl, ⟨by show (_ : Nat) < 256; simp, hz, h6, h7, byt_nil⟩⟩
      rw [hw, hu, h3, h4] at hF
      exact hF.symm
    · have e : stepS F = ⟨9, 0, twoS F 2, twoP F 2, []⟩ := by
        rw [stepS, hk]
        show (⟨wayD 9 F 1, 0, wayS F 1, wayP F 1, []⟩ : St) = _
        rw [show wayD 9 F 1 = 9 from if_neg (fun q => by rw [hd] at q; exact absurd q.2 (by decide)), show wayS F 1 = twoS F 2 from if_pos hok, show wayP F 1 = twoP F 2 from if_pos hok]
      rw [e]
      refine ⟨?_, rfl, ⟨by show (_ : Nat) < 256; simp, hz, h6, h7, byt_nil⟩⟩
      rw [hw, hd, h3, h4] at hF
      exact hF.symm
theorem stepF_code {F : List ByteArray} {q : Nat × Int} (h : stepF F = some q) : q.2 ≠ 0 := by
  have hover : ∀ {k : Nat}, overF F k = some q → q.2 ≠ 0 := fun {k} h => by have := over_code h; omega
  have hnum : ∀ {k : Nat}, numF F k = some q → q.2 ≠ 0 := fun {k} h => by
    unfold numF at h
    split at h
    · split at h
      · cases h
      · simp at h; subst h; simp
    · simp at h; subst h; simp
  have htwo : ∀ {k : Nat}, twoF F k = some q → q.2 ≠ 0 := fun {k} h => by
    unfold twoF at h
    split at h
    · exact hnum h
    · exact hnum h
  have hbyt : ∀ {k : Nat}, bytF F k = some q → q.2 ≠ 0 := fun {k} h => by
    unfold bytF at h
    split at h
    · split at h
      · cases h
      · simp at h; subst h; simp
    · simp at h; subst h; simp
  have hway : ∀ {k : Nat}, wayF F k = some q → q.2 ≠ 0 := fun {k} h => by
    unfold wayF at h
    split at h
    · exact htwo h
    · split at h
      · simp at h; subst h; simp
      · simp at h; subst h; simp
  have hthen : ∀ {f : Flt} {k : Nat}, (f = some q → q.2 ≠ 0) → thenF f (overF F k) = some q → q.2 ≠ 0 := fun {f k} hf h => by
    unfold thenF at h
    split at h
    · exact hf h
    · exact hover h
  rw [stepF] at h
  split at h
  · simp at h; subst h; simp
  · exact hthen hbyt h
  · exact hthen hnum h
  · exact hover h
  · exact hover h
  · exact hthen htwo h
  · exact hthen htwo h
  · exact hthen hway h
/-- What is printed reads as it was. -/
theorem line_read {s : St} (hi : StI s) (h : lineE s = 0) : readC (lineX s) = 0 ∧ readL (lineX s) = s := by
  have hm : mayS s = true := by
    cases hm : mayS s with
    | true => rfl
    | false => rw [(lineE_bad hm).1] at h; cases h
  have hx : lineX s = lineT s := if_pos h
  have hsz : ¬ 4194304 < (lineT s).size := fun q => by rw [(lineE_over hm q).1] at h; cases h
  have hk := may_kind hm
  have hne : lineL s ≠ [] := by unfold lineL; exact List.append_ne_nil_of_left_ne_nil (wordsL_ne hk) _
  have hf : fieldsB (lineT s) = lineL s := fields_join hne (lineL_blank hi.2.2.2.2)
  obtain ⟨a, b⟩ := reads_back hi hm
  rw [hx]
  constructor
  · unfold readC; rw [if_neg hsz, hf, a]; rfl
  · unfold readL readF; rw [if_neg hsz, hf, a]; exact b
/-- What is read prints as it was. -/
theorem read_line {t : ByteArray} (h : readC t = 0) : lineE (readL t) = 0 ∧ lineX (readL t) = t ∧ StI (readL t) := by
  have hsz : ¬ 4194304 < t.size := fun q => by unfold readC at h; rw [if_pos q] at h; cases h
  have hf : stepF (fieldsB t) = none := by
    cases hs : stepF (fieldsB t) with
    | none => rfl
    | some q =>
      unfold readC at h
      rw [if_neg hsz, hs] at h
      exact absurd h (stepF_code hs)
  obtain ⟨a, b, c⟩ := prints_back (fieldsB_pos t) hf
  have e : readL t = stepS (fieldsB t) := by unfold readL readF; rw [if_neg hsz, hf]; rfl
  rw [e]
  have ht : lineT (stepS (fieldsB t)) = t := by unfold lineT; rw [a, join_fields]
  have hq : ¬ ((stepS (fieldsB t)).kd = 1 ∧ 2097152 < (stepS (fieldsB t)).by'.length) := fun q => by
    have h1 := lineT_one q.1
    rw [ht, if_neg (fun z => by rw [z] at q; simp at q)] at h1
    omega
  have hg := lineE_good b hq (by rw [ht]; exact hsz)
  exact ⟨hg.1, by rw [hg.2, ht], c⟩
theorem StI.zero : StI St.zero := ⟨by decide, by decide, by decide, by decide, byt_nil⟩
theorem readL_sti (t : ByteArray) : StI (readL t) := by
  by_cases h : readC t = 0
  · exact (read_line h).2.2
  · have e : readL t = St.zero := by
      unfold readC at h
      unfold readL
      split
      · rfl
      · rename_i hs
        rw [if_neg hs] at h
        unfold readF
        cases hq : stepF (fieldsB t) with
        | none => rw [hq] at h; exact absurd rfl h
        | some q => rfl
    rw [e]
    exact StI.zero
end Sc
end Go.Proofs.YtbpgpjibljgiiaaDoor
