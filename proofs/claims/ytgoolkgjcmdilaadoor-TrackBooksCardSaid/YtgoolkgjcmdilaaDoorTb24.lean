/-
  Tb, part 24 of 36: the texts KbF KbG RegJ.
-/
import Derived.Test.YtgoolkgjcmdilaaDoorTb12
import Derived.Test.YtgoolkgjcmdilaaDoorTb22
import Derived.Test.YtgoolkgjcmdilaaDoorTb23
section
namespace Go.Proofs.YtgoolkgjcmdilaaDoor
open Go.RowKit
set_option linter.unusedVariables false
set_option linter.unusedSimpArgs false
attribute [local go_sem] Oper.semAt_some
/-- Who is in the fence with this place. -/
def insCs (l : List OC) (p : Int) : List Int := (l.filter (fun c => hasB c.B p)).map OC.id
theorem insCs_snoc (l : List OC) (c : OC) (p : Int) : insCs (l ++ [c]) p = insCs l p ++ (if hasB c.B p then [c.id] else []) := by
  unfold insCs
  rw [List.filter_append, List.map_append]
  by_cases hp : hasB c.B p = true
  · rw [if_pos hp]; simp [hp]
  · rw [if_neg hp]; simp [hp]
theorem insCs_len (l : List OC) (p : Int) : (insCs l p).length ≤ l.length := by
  unfold insCs
  rw [List.length_map]
  exact List.length_filter_le _ _
/-- Between two rounds of Inside. -/
structure InI (w : World) (n4 bl bp : Nat) (p : Int) (Cs : List OC) (pre : List {c // c ∈ Cs}) (W : World) : Prop where
  row : ∃ v, Blk W bl #[v] 22 ∧ RowNew w 33 1 W v (insCs (pre.map Subtype.val) p).length (u32v (insCs (pre.map Subtype.val) p)) ∧ ∀ g, v.ownBlock = some g → n4 ≤ g
  pc : Blk W bp #[.int .i64 p] 3
  sz : n4 ≤ W.heap.size
theorem row_ab {w A B : World} {row : Option Nat} {n : Nat} (hg : A.grownBy B row) (hr : ∀ r, row = some r → r ∈ ([] : List Nat) ∨ (n ≤ r ∧ ∃ o : Obj, A.heap[r]? = some o ∧ o.isCells = false)) (hn : w.heap.size ≤ n) {e size m : Nat} {v : Value} {xs : List Value} (h : RowNew w e size A v m xs) : RowNew w e size B v m xs :=
  ⟨own_ab hg hr h.own (by simp), h.low, fr_ab hg hr hn h.fr (by simp)⟩
theorem in_ab (w : World) (n4 bl bp : Nat) (p : Int) (Cs : List OC) (k : Nat) (hk : w.heap.size ≤ k) : Ab k [] (InI w n4 bl bp p Cs) :=
  fun s A B row h hg hr => by
    obtain ⟨v, h1, h2, h3⟩ := h.row
    exact ⟨⟨v, blk_ab hg hr h1 (by simp), row_ab hg hr hk h2, h3⟩, blk_ab hg hr h.pc (by simp), Nat.le_trans h.sz hg.size⟩
set_option maxRecDepth 100000 in
theorem kinside_no (w : World) (k bO bN bP : Nat) (u : Value) (Fs : List (Int × Int)) (rN fe : Int)
    (h : BkAt w k bO bN bP) (hN : TabN w bN u Fs rN) (hf : U32 fe) (hl : hasId Fs fe = false) :
    Calls Tryd.prog 57 #[.pointer (some ⟨k, 0, none⟩), .int .u32 fe] w (IdsPost w []) := by
  have F0 : Fr [] w (w.alloc (.cells #[.slice none 0 0] 22)) := (Fr.refl _ _).alloc _
  have c1 := Blk.at (h.grow F0) 1 (v := .pointer (some ⟨bN, 0, none⟩)) rfl
  have HC := Lib.hid (getN_no _ bN u Fs rN fe (hN.grow F0) hf hl)
  have HH := Lib.hid h
  have HZ := Lib.hid (Blk.new w #[.slice none 0 0] 22)
  have HF0 := Lib.hid F0
  clear h hN hf hl F0
  go_enter Tryd.func57, Tryd.ntmps57
  go_wp2_with fail
  (with_reducible refine (there_yes _ k bO bN bP HH.out).mono ?_)
  rintro e w1 ⟨rfl, rfl⟩
  go_wp2_with fail
  (with_reducible refine (HC.out).mono ?_)
  rintro e w1 ⟨rfl, f1⟩
  have c2 := ((f1.alloc (.cells #[.int .i64 0] 3)).blk HZ.out (by simp)).at 0 (v := .slice none 0 0) rfl
  have HF := Lib.hid f1
  clear f1 c1
  go_wp2_with fail
  refine bodyPost_ret (v := .slice none 0 0) (by simp [results, Tryd.results57, go_sem]) rfl ⟨_, rfl, (RowNew.start w 33 1).grow ((HF0.out.trans HF.out (by simp)).alloc _)⟩
set_option maxRecDepth 100000 in
set_option maxHeartbeats 2000000 in
theorem kinside_yes (w : World) (N : List Nat) (k bO bN bP : Nat) (v u vP : Value) (rO rN : Nat) (Fs : List (Int × Int)) (BP : List Bool) (Cs : List OC) (fe p : Int) (h : KBL w N k bO bN bP v u vP rO rN Fs BP Cs) (hf : U32 fe) (hp : Fs[rank Fs fe]? = some (fe, p)) :
    Calls Tryd.prog 57 #[.pointer (some ⟨k, 0, none⟩), .int .u32 fe] w (IdsPost w (insCs Cs p)) := by
  have F0 : Fr [] w (w.alloc (.cells #[.slice none 0 0] 22)) := (Fr.refl _ _).alloc _
  have c1 := Blk.at (h.hd.grow F0) 1 (v := .pointer (some ⟨bN, 0, none⟩)) rfl
  have HC := Lib.hid (getN_yes _ bN u Fs rN fe p (h.hN.grow F0) hf hp)
  have HZ := Lib.hid (Blk.new w #[.slice none 0 0] 22)
  have HF0 := Lib.hid F0
  have HH := Lib.hid h
  clear h hf hp F0
  refine (callsIn_wide (n := 9)).1 ?_
  refine callsIn_of_wp_marks Tryd.func57 rfl trivial ?_ rfl
  simp only [Tryd.ntmps57, List.size_toArray, List.length_cons, List.length_nil, Nat.reduceAdd, Nat.reduceSub, Array.replicate_succ, Array.replicate_zero, List.push_toArray, List.append_toArray, List.nil_append, List.cons_append]
  gi_wp2
  refine ⟨trivial, (callsIn_wide.2 (there_yes _ k bO bN bP HH.out.hd)).mono ?_⟩
  rintro e w1 ⟨rfl, rfl⟩
  gi_wp2
  refine ⟨trivial, (callsIn_wide.2 HC.out).mono ?_⟩
  rintro e w1 ⟨rfl, f1⟩
  have F2 : Fr [] w (w1.alloc (.cells #[.int .i64 p] 3)) := (HF0.out.trans f1 (by simp)).alloc _
  have hpc := Blk.new w1 #[.int .i64 p] 3
  have hbl := (f1.alloc (.cells #[.int .i64 p] 3)).blk HZ.out (by simp)
  have hle1 : w.heap.size < w1.heap.size := by have := f1.size; simp at this; omega
  have HQ := Lib.hid (And.intro F2 (And.intro hpc hbl))
  have c0 := Blk.at (HH.out.hd.grow F2) 0 (v := .pointer (some ⟨bO, 0, none⟩)) rfl
  clear HC HZ HF0 f1 F2 hpc hbl c1
  gi_wp2
  generalize hbp : w1.heap.size = bp at HQ hle1 ⊢
  obtain ⟨bl, hbl⟩ : ∃ bl, bl = w.heap.size := ⟨_, rfl⟩
  rw [← hbl] at HQ hle1 ⊢
  have hwb : w.heap.size ≤ bl := by omega
  clear hbl
  generalize hw2 : w1.alloc (.cells #[.int .i64 p] 3) = w2 at HQ c0 ⊢
  obtain ⟨F2, hpc, hb2⟩ := HQ.out
  refine ⟨trivial, (callsIn_wide.2 (allO_any w2 bO v _ _ (HH.out.hO.grow F2))).mono ?_⟩
  rintro e w4 ⟨bx, lv, rfl, hbx, hcp, hbx1, f4⟩
  have hHeld : OHeld bx lv (Cs.map OC.pair) w4 := ⟨hbx, hcp.1⟩
  obtain ⟨gq, hgq, hge⟩ := hcp.2
  have hlt2 : bp < w2.heap.size := hpc.lt
  have HK := Lib.hid (show ∀ j, j ∈ bx :: lv.ownBlock.toList → w2.heap.size ≤ j ∧ j < w4.heap.size from fun j hj => by
    rcases List.mem_cons.1 hj with rfl | hj
    · exact ⟨by omega, hbx.lt⟩
    · have e1 : j = gq := by rw [hgq] at hj; simpa using hj
      subst e1
      exact ⟨by omega, own_lt hcp.1 hgq⟩)
  have HL := Lib.hid hHeld
  have hle4 : w2.heap.size ≤ w4.heap.size := f4.size
  have hlC : Cs.length ≤ 64 := by have := HH.out.lC; have := HH.out.m0; omega
  have f04 := F2.trans f4 (by simp)
  have hbl4 := f4.blk hb2 (by simp)
  have hpc4 := f4.blk hpc (by simp)
  have HI0 := Lib.hid (show InI w w4.heap.size bl bp p Cs [] w4 from ⟨⟨_, hbl4, (RowNew.start w 33 1).grow f04, by simp [Value.ownBlock]⟩, hpc4, Nat.le_refl _⟩)
  have hbn : bl < w4.heap.size := by omega
  clear f4 hbx hcp hgq hge hHeld c0 hbx1 F2 hpc hb2 hw2 hbp HQ hbl4 hpc4 f04
  gi_wp2
  obtain ⟨n4, hn4⟩ : ∃ n4, n4 = w4.heap.size := ⟨_, rfl⟩
  rw [← hn4] at HK hle4 HI0 hbn
  have hn4' : n4 ≤ w4.heap.size := by omega
  have hn4'' : w4.heap.size ≤ n4 := by omega
  clear hn4
  refine wpIn_range_tm (w := w4) (ps := #[28, 29]) (encs := fun (x : {c // c ∈ Cs}) => #[.int .u32 x.1.pair.1, .pointer (some ⟨x.1.pair.2, 0, none⟩)]) rfl (by decide) (gf := 144) (lb := #[.pointer (some ⟨bx, 0, none⟩)]) rfl trivial (enters_of Tryd.func144 (by kernel_rfl) rfl)
    (allO_tells _ bx (w4.heap.size + 2) lv Cs OC.pair (by omega)) Kpb.trans (fun W l o o' hl h1 h2 => Kpb.put o' (fun hm => by have := HK.out _ hm; omega) (by omega)) (fun W hf _ => HL.out.fr0 hf) (fun W l o o' hl h1 h2 h3 => h3.kpb (Kpb.put o' (B := l + 1) (fun hm => by have := HK.out _ hm; omega) (by omega))) (by simp) (fun _ => rfl)
    (InI w n4 bl bp p Cs) (fun _ _ _ => False) (in_ab _ _ _ _ _ _ _ (by omega)) (fun c s A B row h hg hr => h) HI0.out
    (fun tm x a' W => a' = { tmps := ((((tm.setIfInBounds 28 (.int .u32 x.1.id)).setIfInBounds 29 (.pointer (some ⟨x.1.x, 0, none⟩))).setIfInBounds 8 (.int .u32 x.1.id)).setIfInBounds 9 (.pointer (some ⟨x.1.x, 0, none⟩))), defers := [] }) ?hAx ?hassign ?hbody ?hdone ?hstop
  case hAx => exact fun x a' s A A' row h hg hr => h
  case hassign =>
    intro l pre x W K hI hK
    have HKK := Lib.hid hK
    clear hK
    simp only [List.zip_toArray, Array.foldl, OC.pair]
    gi_wp2
    refine HKK.out _ _ (KeepsFrom.refl _ _) ⟨fun _ _ => rfl, KeepsFrom.refl _ _⟩ hI ?_
    rfl
  case hbody =>
    rintro l pre ⟨c, hc⟩ a' W hl - hI rfl hN
    dsimp only
    obtain ⟨v, hbl, hrow, hge⟩ := hI.row
    obtain ⟨hX0, ⟨ws, hB0⟩, -⟩ := HH.out.ob c hc
    have hX := hrow.fr.blk hX0 (by simp)
    have hB := hB0.grow hrow.fr
    have hpc := hI.pc
    clear hX0 hB0
    gi_wp2_with fail
    refine region_grow_in (by kernel_rfl) (by kernel_rfl) [.is (.pointer (some ⟨c.x, 0, none⟩)), .is (.pointer (some ⟨c.x, 0, none⟩)), .is (.pointer (some ⟨c.x, 0, none⟩)), .is (.pointer (some ⟨c.bB, 0, none⟩)), .is (.int .i64 p), .is (.bool (hasB c.B p))] 41 rfl (by kernel_rfl) [(0, 30), (1, 31), (2, 32), (3, 33), (4, 34), (5, 35)] (by kernel_rfl) ?_ ?_
    · intro q a1 W1 i hi hnq hd hG K hK
      have hlt : i < 6 := hi
      have hc : i = 0 ∨ i = 1 ∨ i = 2 ∨ i = 3 ∨ i = 4 ∨ i = 5 := by omega
      rcases hc with rfl | rfl | rfl | rfl | rfl | rfl
      · have e9 := hG.old 9 (by kernel_rfl)
        refine op_do_in rfl (wanted_none rfl) hK (fun K' hK' => ?_)
        unfold Oper.wpIn
        go_simp
        exact hK' _ _ (Fr.refl _ _) rfl
      · have e30 := hG.val (v := .pointer (some ⟨c.x, 0, none⟩)) 0 30 (hd _ rfl ⟨0, .data⟩ (by simp) rfl) rfl rfl
        refine op_do_in rfl (wanted_none rfl) hK (fun K' hK' => ?_)
        unfold Oper.wpIn
        go_simp
        exact hK' _ _ (Fr.refl _ _) rfl
      · have e31 := hG.val (v := .pointer (some ⟨c.x, 0, none⟩)) 1 31 (hd _ rfl ⟨1, .data⟩ (by simp) rfl) rfl rfl
        refine op_do_in rfl (wanted_none rfl) hK (fun K' hK' => ?_)
        unfold Oper.wpIn
        go_simp
        exact hK' _ _ (Fr.refl _ _) rfl
      · have e32 := hG.val (v := .pointer (some ⟨c.x, 0, none⟩)) 2 32 (hd _ rfl ⟨2, .data⟩ (by simp) rfl) rfl rfl
        have c2 := (hG.grown.blk hX (by simp)).at 0 (v := .pointer (some ⟨c.bB, 0, none⟩)) rfl
        refine op_do_in rfl (wanted_none rfl) hK (fun K' hK' => ?_)
        unfold Oper.wpIn
        go_simp
        exact hK' _ _ (Fr.refl _ _) rfl
      · have e6 := hG.old 6 (by kernel_rfl)
        have c2 := (hG.grown.blk hpc (by simp)).at 0 (v := .int .i64 p) rfl
        refine op_do_in rfl (wanted_none rfl) hK (fun K' hK' => ?_)
        unfold Oper.wpIn
        go_simp
        exact hK' _ _ (Fr.refl _ _) rfl
      · have e33 := hG.val (v := .pointer (some ⟨c.bB, 0, none⟩)) 3 33 (hd _ rfl ⟨3, .data⟩ (by simp) rfl) rfl rfl
        have e34 := hG.val (v := .int .i64 p) 4 34 (hd _ rfl ⟨4, .data⟩ (by simp) rfl) rfl rfl
        refine op_do_in rfl (wanted_none rfl) hK (fun K' hK' => ?_)
        unfold Oper.wpIn
        go_simp
        refine ⟨trivial, (callsIn_wide.2 (has_any W1 c.bB c.vB c.B ws p (hB.grow hG.grown))).mono ?_⟩
        rintro e W2 ⟨rfl, rfl⟩
        exact hK' _ _ (Fr.refl _ _) rfl
    · intro vs W1 f1 hv
      have r0 : vs 0 = .pointer (some ⟨c.x, 0, none⟩) := hv 0 30 (by decide) rfl
      have r1 : vs 1 = .pointer (some ⟨c.x, 0, none⟩) := hv 1 31 (by decide) rfl
      have r2 : vs 2 = .pointer (some ⟨c.x, 0, none⟩) := hv 2 32 (by decide) rfl
      have r3 : vs 3 = .pointer (some ⟨c.bB, 0, none⟩) := hv 3 33 (by decide) rfl
      have r4 : vs 4 = .int .i64 p := hv 4 34 (by decide) rfl
      have r5 : vs 5 = .bool (hasB c.B p) := hv 5 35 (by decide) rfl
      simp only [lay, List.foldl_cons, List.foldl_nil, r0, r1, r2, r3, r4, r5]
      simp only [List.setIfInBounds_toArray, List.set_cons_zero, List.set_cons_succ]
      clear hv r0 r1 r2 r3 r4 r5
      have hrow1 := hrow.grow f1
      have hl1 : (insCs (pre.map Subtype.val) p).length ≤ 1000 := by
        have := insCs_len (pre.map Subtype.val) p
        rw [List.length_map] at this
        omega
      have HR := Lib.hid (And.intro (own_fr (S := []) hrow1.own ((Fr.refl [] W1).alloc (.cells #[.int .u32 c.id] 33)) (by simp)) hl1)
      have ca := (f1.blk hbl (by simp)).at 0 (v := v) rfl
      have HS := Lib.hid (fun (v' : Value) (w1 : World) (happ : Appended (W1.alloc (.cells #[.int .u32 c.id] 33)) 33 1 v ((insCs (pre.map Subtype.val) p).length + 1) (u32v (insCs (pre.map Subtype.val) p) ++ [.int .u32 c.id]) v' w1) => app_step (o := 0) hbl (by rfl) hrow hge hbn hI.sz hwb f1 happ)
      have HI1 := Lib.hid (And.intro hI (And.intro ((in_ab w n4 bl bp p Cs w.heap.size (Nat.le_refl _)).fr hI f1) f1))
      have hsn := insCs_snoc (pre.map Subtype.val) c p
      clear hI hX hpc hB hbl hrow hge hrow1 hl1
      cases hb : hasB c.B p with
      | false =>
        have HW := Lib.hid hsn
        have HY := Lib.hid hb
        clear hsn hb HS HR ca
        gi_wp2
        obtain ⟨hI, hI1, f1⟩ := HI1.out
        have hsn := HW.out
        rw [HY.out, if_neg (by decide), List.append_nil] at hsn
        refine ⟨kf_of_fr _ f1 (by simp), Kpb.of_fr _ f1 (fun j hj => ⟨?_, by simp⟩) (by simp), ?_, hI1.pc, hI1.sz⟩
        · have := HK.out j hj; have := hI.sz; omega
        · rw [List.map_append]
          simp only [List.map_cons, List.map_nil]
          rw [hsn]
          exact hI1.row
      | true =>
        have HW := Lib.hid hsn
        have HY := Lib.hid hb
        clear hsn hb
        gi_wp2_with (gi_at_builtin; go_must (refine wpListIn_app _ rfl _ _ 22 rfl 33 (.int .u32 0) 1 4 Tryd.underlying22 infoU rfl (by decide) v (insCs (pre.map Subtype.val) p).length (u32v (insCs (pre.map Subtype.val) p)) rfl HR.out.1 ⟨W1.heap.size, 0, none⟩ 1 1 [.int .u32 c.id] rfl rfl (new_one _ _ _ _ rfl) (by simp [Value.oneCell']) (by have := HR.out.2; unfold maxLen; omega) (by have := HR.out.2; omega) ?_); intro v1 w1 happ; obtain ⟨g1, cp1, rfl⟩ := own_succ happ.own; have hs1 := HS.out _ _ happ; have cb := hs1.cell; have cf := hs1.free; have HS1 := Lib.hid hs1; clear hs1 happ)
        obtain ⟨hI, hI1, f1⟩ := HI1.out
        have hs := HS1.out
        have hsn := HW.out
        rw [HY.out, if_pos rfl] at hsn
        refine ⟨kf_of_fr _ hs.fr (fun j hj => (hs.old j hj).2), Kpb.of_fr _ hs.fr (fun j hj => ⟨?_, fun hm => ?_⟩) (fun j hj => (hs.old j hj).2), ⟨_, hs.new, ?_, hs.low⟩, ?_, ?_⟩
        · have := HK.out j hj; have := hI.sz; omega
        · have h8 := HK.out j hj
          rcases (hs.old j hm).1 with q | q <;> omega
        · rw [List.map_append]
          simp only [List.map_cons, List.map_nil]
          rw [hsn, List.length_append, List.length_singleton, u32v_app]
          exact hs.row
        · refine hs.fr.blk hI.pc (fun hm => ?_)
          rcases (hs.old _ hm).1 with q | q <;> omega
        · exact Nat.le_trans hI.sz hs.fr.size
  case hstop =>
    rintro D cc pre W hD hp hI
    exact hI.elim
  case hdone =>
    rintro D xs W hD rfl hI hen hK
    obtain ⟨v, hbl, hrow, hge⟩ := hI.row
    have ca := hbl.at 0 (v := v) rfl
    have HR := Lib.hid (And.intro hrow (And.intro hge hK))
    clear hrow hge hK hI hen
    gi_wp2
    obtain ⟨hrow, hge, hK⟩ := HR.out
    rw [List.attach_map_subtype_val] at hrow
    refine ⟨by simp, .inl ⟨_, _, rfl, run_takeDeferred hK, ?_⟩⟩
    exact ⟨v, by simp [results, Tryd.results57, go_sem], v, rfl, own_putObj hrow.own hK rfl _, hrow.low, hrow.fr.putObj _ _ (by omega)⟩
end Go.Proofs.YtgoolkgjcmdilaaDoor
end
section
namespace Go.Proofs.YtgoolkgjcmdilaaDoor
open Go.RowKit
set_option linter.unusedVariables false
set_option linter.unusedSimpArgs false
attribute [local go_sem] Oper.semAt_some
/-- The fences of a set, as they come. -/
def idsB (l : List (Int × Int)) (B : List Bool) : List Int := (l.filter (fun q => hasB B q.2)).map (·.1)
theorem idsB_snoc (l : List (Int × Int)) (B : List Bool) (f p : Int) : idsB (l ++ [(f, p)]) B = idsB l B ++ (if hasB B p then [f] else []) := by
  unfold idsB
  rw [List.filter_append, List.map_append]
  by_cases hp : hasB B p = true
  · rw [if_pos hp]; simp [hp]
  · rw [if_neg hp]; simp [hp]
theorem idsB_len (l : List (Int × Int)) (B : List Bool) : (idsB l B).length ≤ l.length := by
  unfold idsB
  rw [List.length_map]
  exact List.length_filter_le _ _
theorem idsB_ids {Fs : List (Int × Int)} (hp : ∀ q ∈ Fs, 0 ≤ q.2) (B : List Bool) : idsB Fs B = idsOf Fs B := by
  unfold idsB idsOf
  congr 1
  apply List.filter_congr
  intro q hq
  unfold hasB
  rw [decide_eq_true (hp q hq), Bool.true_and]
/-- Between two rounds of whole. -/
structure WhI (w : World) (n4 b3 b4 b5 x : Nat) (id num t px py : Int) (sp : Nat) (B : List Bool) (pre : List (Int × Int)) (W : World) : Prop where
  row : ∃ v, Blk W b5 #[.int .u32 id, .int .u32 num, .int .u32 t, .int .i32 px, .int .i32 py, .float .f64 sp, v] 119 ∧ RowNew w 33 1 W v (idsB pre B).length (u32v (idsB pre B)) ∧ ∀ g, v.ownBlock = some g → n4 ≤ g
  box : Blk W b3 #[.pointer (some ⟨x, 0, none⟩)] 179
  res : Blk W b4 #[.int .u32 0, .int .u32 0, .int .u32 0, .int .i32 0, .int .i32 0, .float .f64 0, .slice none 0 0] 119
  sz : n4 ≤ W.heap.size
theorem wh_ab (w : World) (n4 b3 b4 b5 x : Nat) (id num t px py : Int) (sp : Nat) (B : List Bool) (k : Nat) (hk : w.heap.size ≤ k) : Ab k [] (WhI w n4 b3 b4 b5 x id num t px py sp B) :=
  fun s A Bw row h hg hr => by
    obtain ⟨v, h1, h2, h3⟩ := h.row
    exact ⟨⟨v, blk_ab hg hr h1 (by simp), row_ab hg hr hk h2, h3⟩, blk_ab hg hr h.box (by simp), blk_ab hg hr h.res (by simp), Nat.le_trans h.sz hg.size⟩
def WholePost (w : World) (c : OC) (ids : List Int) (e : Ending) (w' : World) : Prop :=
  ∃ v, e = .returned (.agg #[.int .u32 c.id, .int .u32 c.num, .int .u32 c.t, .int .i32 c.px, .int .i32 c.py, .float .f64 c.sp, v]) ∧ RowNew w 33 1 w' v ids.length (u32v ids)
set_option maxRecDepth 100000 in
set_option maxHeartbeats 2000000 in
theorem kwhole (w : World) (N : List Nat) (k bO bN bP : Nat) (v u vP : Value) (rO rN : Nat) (Fs : List (Int × Int)) (BP : List Bool) (Cs : List OC) (c : OC) (h : KBL w N k bO bN bP v u vP rO rN Fs BP Cs) (hc : c ∈ Cs) :
    Calls Tryd.prog 110 #[.pointer (some ⟨k, 0, none⟩), .pointer (some ⟨c.x, 0, none⟩)] w (WholePost w c (idsOf Fs c.B)) := by
  obtain ⟨hX0, ⟨ws, hB0⟩, -⟩ := h.ob c hc
  unfold ObAt at hX0
  have F0 : Fr [] w ((w.alloc (.cells #[.pointer (some ⟨c.x, 0, none⟩)] 179)).alloc (.cells #[.int .u32 0, .int .u32 0, .int .u32 0, .int .i32 0, .int .i32 0, .float .f64 0, .slice none 0 0] 119)) := ((Fr.refl _ _).alloc _).alloc _
  have hX := F0.blk hX0 (by simp)
  have x1 := hX.at 1 (v := .int .u32 c.id) rfl
  have x2 := hX.at 2 (v := .int .u32 c.num) rfl
  have x3 := hX.at 3 (v := .int .u32 c.t) rfl
  have x4 := hX.at 4 (v := .int .i32 c.px) rfl
  have x5 := hX.at 5 (v := .int .i32 c.py) rfl
  have x6 := hX.at 6 (v := .float .f64 c.sp) rfl
  have x7 := hX.at 7 (v := .slice none 0 0) rfl
  obtain ⟨w2, hw2⟩ : ∃ w2, ((w.alloc (.cells #[.pointer (some ⟨c.x, 0, none⟩)] 179)).alloc (.cells #[.int .u32 0, .int .u32 0, .int .u32 0, .int .i32 0, .int .i32 0, .float .f64 0, .slice none 0 0] 119)).alloc (.cells #[.int .u32 c.id, .int .u32 c.num, .int .u32 c.t, .int .i32 c.px, .int .i32 c.py, .float .f64 c.sp, .slice none 0 0] 119) = w2 := ⟨_, rfl⟩
  have F2 : Fr [] w w2 := by rw [← hw2]; exact F0.alloc _
  have hb3 : Blk w2 w.heap.size #[.pointer (some ⟨c.x, 0, none⟩)] 179 := by rw [← hw2]; exact ((Blk.new w _ _).alloc _).alloc _
  have hb4 : Blk w2 (w.heap.size + 1) #[.int .u32 0, .int .u32 0, .int .u32 0, .int .i32 0, .int .i32 0, .float .f64 0, .slice none 0 0] 119 := by rw [← hw2]; exact (Blk.new_at (by simp) _ _).alloc _
  have hb5 : Blk w2 (w.heap.size + 1 + 1) #[.int .u32 c.id, .int .u32 c.num, .int .u32 c.t, .int .i32 c.px, .int .i32 c.py, .float .f64 c.sp, .slice none 0 0] 119 := by rw [← hw2]; exact Blk.new_at (by simp) _ _
  have c1 := Blk.at (h.hd.grow F2) 1 (v := .pointer (some ⟨bN, 0, none⟩)) rfl
  rw [← hw2] at c1
  have HC := Lib.hid (allN_any w2 bN u Fs rN (h.hN.grow F2))
  have HQ := Lib.hid (And.intro F2 (And.intro hb3 (And.intro hb4 (And.intro hb5 hw2))))
  have HB := Lib.hid hB0
  have HX0 := Lib.hid hX0
  have HH := Lib.hid h
  clear h hc F0 F2 hb3 hb4 hb5 hX hX0 hB0 hw2
  refine (callsIn_wide (n := 9)).1 ?_
  refine callsIn_of_wp_marks Tryd.func110 rfl trivial ?_ rfl
  simp only [Tryd.ntmps110, List.size_toArray, List.length_cons, List.length_nil, Nat.reduceAdd, Nat.reduceSub, Array.replicate_succ, Array.replicate_zero, List.push_toArray, List.append_toArray, List.nil_append, List.cons_append]
  gi_wp2
  obtain ⟨F2, hb3, hb4, hb5, hw2⟩ := HQ.out
  rw [hw2]
  clear x1 x2 x3 x4 x5 x6 x7 c1 hw2 HQ
  obtain ⟨b3, hb3'⟩ : ∃ b3, b3 = w.heap.size := ⟨_, rfl⟩
  have hwb : w.heap.size ≤ b3 := by omega
  rw [← hb3'] at hb3 hb4 hb5 ⊢
  clear hb3'
  refine ⟨trivial, (callsIn_wide.2 HC.out).mono ?_⟩
  rintro e w4 ⟨bx, lv, rfl, hbx, hcp, hbx1, f4⟩
  have hHeld : NHeld bx lv Fs w4 := ⟨hbx, hcp.1⟩
  obtain ⟨gq, hgq, hge⟩ := hcp.2
  have hlt2 : b3 + 1 + 1 < w2.heap.size := hb5.lt
  have HK := Lib.hid (show ∀ j, j ∈ bx :: lv.ownBlock.toList → w2.heap.size ≤ j ∧ j < w4.heap.size from fun j hj => by
    rcases List.mem_cons.1 hj with rfl | hj
    · exact ⟨by omega, hbx.lt⟩
    · have e1 : j = gq := by rw [hgq] at hj; simpa using hj
      subst e1
      exact ⟨by omega, own_lt hcp.1 hgq⟩)
  have HL := Lib.hid hHeld
  have hle4 : w2.heap.size ≤ w4.heap.size := f4.size
  have hlF : Fs.length ≤ 64 := by have := HH.out.hN.lim.1; have := HH.out.mN; omega
  have HI0 := Lib.hid (show WhI w w4.heap.size b3 (b3 + 1) (b3 + 1 + 1) c.x c.id c.num c.t c.px c.py c.sp c.B [] w4 from ⟨⟨_, f4.blk hb5 (by simp), (RowNew.start w 33 1).grow (F2.trans f4 (by simp)), by simp [Value.ownBlock]⟩, f4.blk hb3 (by simp), f4.blk hb4 (by simp), Nat.le_refl _⟩)
  have hbn : b3 + 1 + 1 < w4.heap.size := by omega
  have hww : w.heap.size ≤ w4.heap.size := (F2.trans f4 (by simp)).size
  clear f4 hbx hcp hgq hge hHeld hbx1 F2 hb3 hb4 hb5
  gi_wp2
  obtain ⟨n4, hn4⟩ : ∃ n4, n4 = w4.heap.size := ⟨_, rfl⟩
  rw [← hn4] at HK hle4 HI0 hbn
  have hn4' : n4 ≤ w4.heap.size := by omega
  have hn4'' : w4.heap.size ≤ n4 := by omega
  clear hn4
  refine wpIn_range_tm (w := w4) (ps := #[17, 18]) (encs := fun (x : Int × Int) => #[.int .u32 x.1, .int .i64 x.2]) rfl (by decide) (gf := 161) (lb := #[.pointer (some ⟨bx, 0, none⟩)]) rfl trivial (enters_of Tryd.func161 (by kernel_rfl) rfl)
    (allN_tells _ bx (w4.heap.size + 2) lv Fs (by omega)) Kpb.trans (fun W l o o' hl h1 h2 => Kpb.put o' (fun hm => by have := HK.out _ hm; omega) (by omega)) (fun W hf _ => HL.out.fr0 hf) (fun W l o o' hl h1 h2 h3 => h3.kpb (Kpb.put o' (B := l + 1) (fun hm => by have := HK.out _ hm; omega) (by omega))) (by simp) (fun _ => rfl)
    (WhI w n4 b3 (b3 + 1) (b3 + 1 + 1) c.x c.id c.num c.t c.px c.py c.sp c.B) (fun _ _ _ => False) (wh_ab _ _ _ _ _ _ _ _ _ _ _ _ _ _ hww) (fun c s A B row h hg hr => h) HI0.out
    (fun tm x a' W => a' = { tmps := ((((tm.setIfInBounds 17 (.int .u32 x.1)).setIfInBounds 18 (.int .i64 x.2)).setIfInBounds 6 (.int .u32 x.1)).setIfInBounds 7 (.int .i64 x.2)), defers := [] }) ?hAx ?hassign ?hbody ?hdone ?hstop
  case hAx => exact fun x a' s A A' row h hg hr => h
  case hassign =>
    intro l pre x W K hI hK
    have HKK := Lib.hid hK
    clear hK
    simp only [List.zip_toArray, Array.foldl]
    gi_wp2
    refine HKK.out _ _ (KeepsFrom.refl _ _) ⟨fun _ _ => rfl, KeepsFrom.refl _ _⟩ hI ?_
    rfl
  case hbody =>
    rintro l pre ⟨f, p⟩ a' W hl - hI rfl hN
    dsimp only
    obtain ⟨v, hbl, hrow, hge⟩ := hI.row
    have y0 := hI.box.at 0 (v := .pointer (some ⟨c.x, 0, none⟩)) rfl
    have z0 := (hrow.fr.blk HX0.out (by simp)).at 0 (v := .pointer (some ⟨c.bB, 0, none⟩)) rfl
    have HBW := Lib.hid (HB.out.grow hrow.fr)
    have HIW := Lib.hid (And.intro hI (And.intro hbl (And.intro hrow hge)))
    have c6 := hbl.at 6 (v := v) rfl
    have hl1 : (idsB pre c.B).length ≤ 1000 := by
      have := idsB_len pre c.B
      omega
    have HR := Lib.hid (And.intro (own_fr (S := []) hrow.own ((Fr.refl [] W).alloc (.cells #[.int .u32 f] 33)) (by simp)) hl1)
    have HS := Lib.hid (fun (v' : Value) (w1 : World) (happ : Appended (W.alloc (.cells #[.int .u32 f] 33)) 33 1 v ((idsB pre c.B).length + 1) (u32v (idsB pre c.B) ++ [.int .u32 f]) v' w1) => app_step (o := 6) hbl (by rfl) hrow hge hbn hI.sz (by omega) (Fr.refl [] W) happ)
    have HW := Lib.hid (idsB_snoc pre c.B f p)
    clear hI hbl hrow hge hl1
    gi_wp2
    refine ⟨trivial, (callsIn_wide.2 (has_any W c.bB c.vB c.B ws p HBW.out)).mono ?_⟩
    rintro e W2 ⟨rfl, rfl⟩
    cases hb : hasB c.B p with
    | false =>
      have HY := Lib.hid hb
      clear hb HS HR
      gi_wp2
      obtain ⟨hI, hbl, hrow, hge⟩ := HIW.out
      have hsn := HW.out
      rw [HY.out, if_neg (by decide), List.append_nil] at hsn
      refine ⟨KeepsFrom.refl _ _, ⟨fun _ _ => rfl, KeepsFrom.refl _ _⟩, ⟨v, hbl, ?_, hge⟩, hI.box, hI.res, hI.sz⟩
      rw [hsn]
      exact hrow
    | true =>
      have HY := Lib.hid hb
      clear hb
      gi_wp2_with (gi_at_builtin; go_must (refine wpListIn_app _ rfl _ _ 22 rfl 33 (.int .u32 0) 1 4 Tryd.underlying22 infoU rfl (by decide) v (idsB pre c.B).length (u32v (idsB pre c.B)) rfl HR.out.1 ⟨W.heap.size, 0, none⟩ 1 1 [.int .u32 f] rfl rfl (new_one _ _ _ _ rfl) (by simp [Value.oneCell']) (by have := HR.out.2; unfold maxLen; omega) (by have := HR.out.2; omega) ?_); intro v1 w1 happ; obtain ⟨g1, cp1, rfl⟩ := own_succ happ.own; have hs1 := HS.out _ _ happ; have cb := hs1.cell; have cf := hs1.free; have HS1 := Lib.hid hs1; clear hs1 happ)
      obtain ⟨hI, hbl, hrow, hge⟩ := HIW.out
      have hs := HS1.out
      have hsn := HW.out
      rw [HY.out, if_pos rfl] at hsn
      have hin : ∀ {j : Nat}, j < b3 + 1 + 1 → j ∉ (b3 + 1 + 1) :: v.ownBlock.toList := fun hj hm => by
        rcases (hs.old _ hm).1 with q | q <;> omega
      refine ⟨kf_of_fr _ hs.fr (fun j hj => (hs.old j hj).2), Kpb.of_fr _ hs.fr (fun j hj => ⟨?_, fun hm => ?_⟩) (fun j hj => (hs.old j hj).2), ⟨_, hs.new, ?_, hs.low⟩, hs.fr.blk hI.box (hin (by omega)), hs.fr.blk hI.res (hin (by omega)), Nat.le_trans hI.sz hs.fr.size⟩
      · have := HK.out j hj; have := hI.sz; omega
      · have h8 := HK.out j hj
        rcases (hs.old j hm).1 with q | q <;> omega
      · rw [hsn, List.length_append, List.length_singleton, u32v_app]
        exact hs.row
  case hstop =>
    rintro D cc pre W hD hp hI
    exact hI.elim
  case hdone =>
    rintro D xs W hD rfl hI hen hK
    obtain ⟨v, hbl, hrow, hge⟩ := hI.row
    obtain ⟨pv, cv, rfl⟩ := hrow.form
    have y0 := hbl.at 0 (v := .int .u32 c.id) rfl
    have y1 := hbl.at 1 (v := .int .u32 c.num) rfl
    have y2 := hbl.at 2 (v := .int .u32 c.t) rfl
    have y3 := hbl.at 3 (v := .int .i32 c.px) rfl
    have y4 := hbl.at 4 (v := .int .i32 c.py) rfl
    have y5 := hbl.at 5 (v := .float .f64 c.sp) rfl
    have y6 := hbl.at 6 (v := .slice pv (idsB xs c.B).length cv) rfl
    have r0 := hI.res.at 0 (v := .int .u32 0) rfl
    have r1 := hI.res.at 1 (v := .int .u32 0) rfl
    have r2 := hI.res.at 2 (v := .int .u32 0) rfl
    have r3 := hI.res.at 3 (v := .int .i32 0) rfl
    have r4 := hI.res.at 4 (v := .int .i32 0) rfl
    have r5 := hI.res.at 5 (v := .float .f64 0) rfl
    have r6 := hI.res.at 6 (v := .slice none 0 0) rfl
    have g0 := hI.res.free 0
    have g1 := hI.res.free 1
    have g2 := hI.res.free 2
    have g3 := hI.res.free 3
    have g4 := hI.res.free 4
    have g5 := hI.res.free 5
    have g6 := hI.res.free 6
    have HR := Lib.hid (And.intro hrow (And.intro hge (And.intro hK hI.res)))
    clear hrow hge hK hI hen hbl
    gi_wp2
    obtain ⟨hrow, hge, hK, hres⟩ := HR.out
    have hb := ((((((hres.set 0 (.int .u32 c.id)).set 1 (.int .u32 c.num)).set 2 (.int .u32 c.t)).set 3 (.int .i32 c.px)).set 4 (.int .i32 c.py)).set 5 (.float .f64 c.sp)).set 6 (.slice pv (idsB xs c.B).length cv)
    have F5 := (((((((Fr.refl [b3 + 1] W).setCell ⟨b3 + 1, 0, none⟩ (.int .u32 c.id) (.inl (by simp))).setCell ⟨b3 + 1, 1, none⟩ (.int .u32 c.num) (.inl (by simp))).setCell ⟨b3 + 1, 2, none⟩ (.int .u32 c.t) (.inl (by simp))).setCell ⟨b3 + 1, 3, none⟩ (.int .i32 c.px) (.inl (by simp))).setCell ⟨b3 + 1, 4, none⟩ (.int .i32 c.py) (.inl (by simp))).setCell ⟨b3 + 1, 5, none⟩ (.float .f64 c.sp) (.inl (by simp))).setCell ⟨b3 + 1, 6, none⟩ (.slice pv (idsB xs c.B).length cv) (.inl (by simp))
    simp only [List.setIfInBounds_toArray, List.set_cons_zero, List.set_cons_succ] at hb
    clear y0 y1 y2 y3 y4 y5 y6 r0 r1 r2 r3 r4 r5 r6 g0 g1 g2 g3 g4 g5 g6
    generalize ((((((W.setCell ⟨b3 + 1, 0, none⟩ (.int .u32 c.id)).setCell ⟨b3 + 1, 1, none⟩ (.int .u32 c.num)).setCell ⟨b3 + 1, 2, none⟩ (.int .u32 c.t)).setCell ⟨b3 + 1, 3, none⟩ (.int .i32 c.px)).setCell ⟨b3 + 1, 4, none⟩ (.int .i32 c.py)).setCell ⟨b3 + 1, 5, none⟩ (.float .f64 c.sp)).setCell ⟨b3 + 1, 6, none⟩ (.slice pv (idsB xs c.B).length cv) = W5 at hb F5 ⊢
    have hK5 : W5.heap[D]? = some (.deferred (some [])) := (F5.block D (Array.getElem?_eq_some_iff.1 hK).1 (by simp; omega)).trans hK
    have hown := own_fr hrow.own F5 (fun g hg hm => by have := hge g hg; simp at hm; omega)
    have hbd := Blk.putObj hb hK5 rfl (.deferred none)
    have e0 := hbd.at 0 (v := .int .u32 c.id) rfl
    have e1 := hbd.at 1 (v := .int .u32 c.num) rfl
    have e2 := hbd.at 2 (v := .int .u32 c.t) rfl
    have e3 := hbd.at 3 (v := .int .i32 c.px) rfl
    have e4 := hbd.at 4 (v := .int .i32 c.py) rfl
    have e5 := hbd.at 5 (v := .float .f64 c.sp) rfl
    have e6 := hbd.at 6 (v := .slice pv (idsB xs c.B).length cv) rfl
    refine ⟨by simp, .inl ⟨_, _, rfl, run_takeDeferred hK5, ?_⟩⟩
    refine ⟨.agg #[.int .u32 c.id, .int .u32 c.num, .int .u32 c.t, .int .i32 c.px, .int .i32 c.py, .float .f64 c.sp, .slice pv (idsB xs c.B).length cv], by simp [results, Tryd.results110, go_sem, e0, e1, e2, e3, e4, e5, e6], _, rfl, ?_⟩
    rw [← idsB_ids (fun q hq => (HH.out.pos q hq).1)]
    exact ⟨own_putObj hown hK5 rfl _, hrow.low, ((hrow.fr.trans F5 (fun j hj => .inr (by simp at hj; omega)))).putObj _ _ (by omega)⟩
end Go.Proofs.YtgoolkgjcmdilaaDoor
end
section
namespace Go.Proofs.YtgoolkgjcmdilaaDoor
open Go.RowKit
set_option linter.unusedVariables false
set_option linter.unusedSimpArgs false
set_option linter.unnecessarySimpa false
section
variable {F : Fence} {m0 : Nat} {P : Program} {Q : Exit → Act → World → Prop} {l : List Oper} {a0 : Act}
/-- **Any order first, then a forced tail.** -/
theorem region_tail_in {id : Nat} {w : World} (hm : P.follows .mixedOrders = true) (hu : waitsFor l.toArray = true) (ms : List (List Nat)) (hms : ancOk l ms = true) (n : Nat) (hn : n ≤ l.length) (hf : forced l ms n = true) (Φ : List Stab) (N : Nat) (hN : a0.tmps.size = N) (hs : slotsOk l N = true)
    (hstep : ∀ (p : Nat → Prop) (a : Act) (W : World) (i : Nat), i < n → ¬ p i → (∀ o, l.toArray[i]? = some o → ∀ e, e ∈ o.after → Region.binds .any e = true → p e.on) → Reg l a0 Φ w p a W →
      ∀ K : Act → World → Prop, Sets l Φ i a W K → wpOpIn F m0 P l.toArray Q i K a W)
    (hend : ∀ (p : Nat → Prop) (a : Act) (W : World), (∀ i, p i ↔ i < n) → Reg l a0 Φ w p a W → wpListIn F m0 P l.toArray Q (l.drop n) a W) : (Code.region id l.toArray true).wpIn F m0 P Q a0 w := by
  have hall : ∀ {p : Nat → Prop} {i : Nat}, n ≤ i → i < l.length → (∀ i, p i → ∀ o, l.toArray[i]? = some o → ∀ e, e ∈ o.after → Region.binds .any e = true → p e.on) → (∀ o, l.toArray[i]? = some o → ∀ e, e ∈ o.after → Region.binds .any e = true → p e.on) → ∀ j, j < i → p j := fun {p i} h1 h2 h3 h4 j hj => by
    have h5 := List.all_eq_true.1 hf i (List.mem_range.2 h2)
    have h6 : decide (i < n) = false := by simp; exact h1
    rw [h6, Bool.false_or] at h5
    exact anc_done hu hms h3 i h2 h4 j (by simpa using List.all_eq_true.1 h5 j (List.mem_range.2 hj))
  have hgo : ∀ {i : Nat} {a : Act} {W : World} (p : Nat → Prop), n ≤ i → i < l.length → (∀ j, p j ↔ j < i) → wpListIn F m0 P l.toArray Q (l.drop i) a W →
      wpOpIn F m0 P l.toArray Q i (fun a' W' => (Reg l a0 Φ w (fun k => p k ∨ k = i) a' W' ∧ ∀ j, (p j ∨ j = i) → j < n) ∨ (∃ m, n ≤ m ∧ (∀ j, (p j ∨ j = i) ↔ j < m) ∧ wpListIn F m0 P l.toArray Q (l.drop m) a' W')) a W := fun {i a W} p h1 h2 h3 h4 => by
    rw [List.drop_eq_getElem_cons h2] at h4
    have hp : ∀ j, (p j ∨ j = i) ↔ j < i + 1 := fun j => by rw [h3 j]; omega
    unfold wpOpIn
    rw [show l.toArray[i]? = some l[i] by simp [h2]]
    unfold wpListIn at h4
    dsimp only
    split
    · rename_i hw
      rw [if_pos hw] at h4
      exact Oper.wpIn_mono (fun a' W' h => .inr ⟨i + 1, by omega, hp, h⟩) h4
    · rename_i hw
      rw [if_neg hw] at h4
      exact ⟨h4.1, .inr ⟨i + 1, by omega, hp, h4.2⟩⟩
  refine region_inv_in2 hm hu (fun p a W => (Reg l a0 Φ w p a W ∧ ∀ j, p j → j < n) ∨ (∃ m, n ≤ m ∧ (∀ j, p j ↔ j < m) ∧ wpListIn F m0 P l.toArray Q (l.drop m) a W)) ?_ ?_ ?_
  · exact .inl ⟨⟨rfl, rfl, fun _ _ => rfl, fun i d h => h.elim, (Fr.refl _ _).drew, fun _ h => h.elim, fun _ h => h.elim⟩, fun j h => h.elim⟩
  · intro p a W i hi hnp hd h
    rcases h with ⟨h, hpn⟩ | ⟨m, hnm, hpm, hw⟩
    · rcases Nat.lt_or_ge i n with hin | hin
      · exact hstep p a W i hin hnp hd h _ (fun v W' f hv => .inl ⟨h.step N hN hs hi hd f hv, fun j hj => by
          rcases hj with hj | hj
          · exact hpn j hj
          · omega⟩)
      · have hlt := hall hin hi h.closed hd
        have hin' : i = n := by
          rcases Nat.lt_or_ge n i with h5 | h5
          · have := hpn n (hlt n h5); omega
          · omega
        subst hin'
        exact hgo p (Nat.le_refl _) hi (fun j => ⟨fun hj => hpn j hj, fun hj => hlt j hj⟩) (hend p a W (fun j => ⟨fun hj => hpn j hj, fun hj => hlt j hj⟩) h)
    · have him : i = m := by
        have h1 : ¬ i < m := fun h => hnp ((hpm i).2 h)
        rcases Nat.lt_or_ge m i with h5 | h5
        · have h7 : p m := by
            have h5' := List.all_eq_true.1 hf i (List.mem_range.2 hi)
            have h6 : decide (i < n) = false := by simp; omega
            rw [h6, Bool.false_or] at h5'
            have h8 := List.all_eq_true.1 h5' m (List.mem_range.2 h5)
            refine anc_done hu hms (p := p) (fun k hk o ho e he hb => ?_) i hi hd m (by simpa using h8)
            rw [hpm] at hk ⊢
            have hkl : k < l.length := (Array.getElem?_eq_some_iff.1 ho).1
            have hw := List.all_eq_true.1 hu k (by simpa using hkl)
            rw [ho] at hw
            have h4 := Array.all_eq_true'.1 hw e he
            rw [hb] at h4
            have h5 : e.on < k := by simpa using h4
            omega
          have := (hpm m).1 h7
          omega
        · omega
      subst him
      exact hgo p hnm hi hpm hw
  · intro p a W hp h
    rcases h with ⟨h, hpn⟩ | ⟨m, hnm, hpm, hw⟩
    · have hnl : n = l.length := by
        rcases Nat.lt_or_ge n l.length with h5 | h5
        · have := hpn n (hp n h5); omega
        · omega
      have := hend p a W (fun j => ⟨fun hj => hpn j hj, fun hj => hp j (by omega)⟩) h
      rw [hnl, List.drop_length] at this
      exact this
    · have hml : l.length ≤ m := by
        rcases Nat.lt_or_ge m l.length with h5 | h5
        · have := (hpm m).1 (hp m h5); omega
        · exact h5
      rw [List.drop_of_length_le hml] at hw
      exact hw
end
end Go.Proofs.YtgoolkgjcmdilaaDoor
end
