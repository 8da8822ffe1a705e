/-
  What pairs gathers of a walk over a table's pairs.
-/
import Derived.Test.YtgoolkgjcmdilaaDoorPaiB
namespace Go.Proofs.YtgoolkgjcmdilaaDoor
open Go.RowKit
set_option linter.unusedVariables false
set_option linter.unusedSimpArgs false
attribute [local go_sem] Oper.semAt_some

theorem eql56 (f : Fn) (x l : Array Value) (w : World) : (binOp .eql 56 (.func f x l) .nilFunc).run Tryd.prog w = .ok (.bool false) w := by kernel_rfl
/-- Between two rounds of pairs; left. -/
structure PI (w : World) (bs br bo : Nat) (stop : Int) (pre : IPs) (W : World) : Prop where
  out : ∃ v, Blk W bo #[v] 50 ∧ W.ownsRow 0 154 2 v pre.length (flat payN pre) ∧ ∀ g, v.ownBlock = some g → bo ≤ g
  st : Blk W bs #[.int .i64 stop] 3
  res : Blk W br #[.slice none 0 0] 50
  fr : Fr [] w W
  no : 0 < stop → (pre.length : Int) < stop
structure PX (w : World) (bs br bo : Nat) (stop : Int) (c : Code) (pre : IPs) (W : World) : Prop where
  c : c = .exit 0
  out : ∃ v, Blk W bo #[v] 50 ∧ W.ownsRow 0 154 2 v pre.length (flat payN pre) ∧ ∀ g, v.ownBlock = some g → bo ≤ g
  res : Blk W br #[.slice none 0 0] 50
  fr : Fr [] w W
  no : 0 < stop ∧ (pre.length : Int) = stop
theorem pi_ab (w : World) (bs br bo : Nat) (stop : Int) (k : Nat) (hk : w.heap.size ≤ k) : Ab k [] (PI w bs br bo stop) :=
  fun s A B row h hg hr => by
    obtain ⟨v, h1, h2, h3⟩ := h.out
    exact ⟨⟨v, blk_ab hg hr h1 (by simp), own_ab hg hr h2 (by simp), h3⟩, blk_ab hg hr h.st (by simp), blk_ab hg hr h.res (by simp), fr_ab hg hr hk h.fr (by simp), h.no⟩
theorem px_ab (w : World) (bs br bo : Nat) (stop : Int) (k : Nat) (hk : w.heap.size ≤ k) (c : Code) : Ab k [] (PX w bs br bo stop c) :=
  fun s A B row h hg hr => by
    obtain ⟨v, h1, h2, h3⟩ := h.out
    exact ⟨h.c, ⟨v, blk_ab hg hr h1 (by simp), own_ab hg hr h2 (by simp), h3⟩, blk_ab hg hr h.res (by simp), fr_ab hg hr hk h.fr (by simp), h.no⟩
def PairsPost (w : World) (L : IPs) (e : Ending) (w' : World) : Prop :=
  ∃ v, e = .returned v ∧ RdP w' v L ∧ Fr [] w w'
set_option maxRecDepth 100000 in
set_option maxHeartbeats 4000000 in
theorem pairs_any (w : World) (k : Nat) (lv : Value) (R : IPs) (stop : Int) (h : VHeld k lv (mapV R) w) (hR : R.length ≤ 65536) :
    Calls Tryd.prog 23 #[.func (.func 67) #[] #[.pointer (some ⟨k, 0, none⟩)], .int .i64 stop] w (PairsPost w (stopR R stop)) := by
  have hq := eql56
  have HV := Lib.hid h
  clear h
  refine (callsIn_wide (n := 9)).1 ?_
  refine callsIn_of_wp_marks Tryd.func23 rfl trivial ?_ rfl
  simp only [Tryd.ntmps23, List.size_toArray, List.length_cons, List.length_nil, Nat.reduceAdd, Nat.reduceSub, Array.replicate_succ, Array.replicate_zero, List.push_toArray, List.append_toArray, List.nil_append, List.cons_append]
  gi_wp2
  generalize hw3 : World.alloc _ _ = w3
  have hz : w3.heap.size = w.heap.size + 3 := by rw [← hw3]; simp
  have kf : Fr [] w w3 := by rw [← hw3]; exact (((Fr.refl [] w).alloc _).alloc _).alloc _
  have k0 : Blk w3 w.heap.size #[.int .i64 stop] 3 := by rw [← hw3]; exact ((Blk.new w _ _).alloc _).alloc _
  have k1 : Blk w3 (w.heap.size + 1) #[.slice none 0 0] 50 := by rw [← hw3]; exact (Blk.new_at (by simp) _ _).alloc _
  have k2 : Blk w3 (w.heap.size + 1 + 1) #[.slice none 0 0] 50 := by rw [← hw3]; exact Blk.new_at (by simp) _ _
  clear hw3
  have hnk : ∀ j, j ∈ k :: lv.ownBlock.toList → j < w.heap.size := by
    intro j hj
    rcases List.mem_cons.1 hj with rfl | hj
    · exact HV.out.1.lt
    · exact own_lt HV.out.2 (by simpa using hj)
  have HK := Lib.hid hnk
  clear hnk
  refine wpIn_range_tm (w := w3) (ps := #[14, 15]) (encs := fun (x : Int × Int) => #[.int .u32 x.1, payVal x]) rfl (by decide) (gf := 67) (lb := #[.pointer (some ⟨k, 0, none⟩)]) rfl trivial (enters_of Tryd.func67 (by kernel_rfl) rfl)
    (allV_tells _ k (w3.heap.size + 2) lv R hR) Kpb.trans (fun W l o o' hl h1 h2 => Kpb.put o' (fun hm => by have := HK.out _ hm; omega) (by omega)) (fun W hf _ => (HV.out.fr0 kf).fr0 hf) (fun W l o o' hl h1 h2 h3 => h3.kpb (Kpb.put o' (B := l + 1) (fun hm => by have := HK.out _ hm; omega) (by omega))) (by simp) (fun _ => rfl)
    (PI w w.heap.size (w.heap.size + 1) (w.heap.size + 1 + 1) stop) (PX w w.heap.size (w.heap.size + 1) (w.heap.size + 1 + 1) stop) (pi_ab _ _ _ _ _ _ (by omega)) (fun c => px_ab _ _ _ _ _ _ (by omega) c)
    ⟨⟨_, k2, World.ownsRow_nil _ _ _ _, by simp [Value.ownBlock]⟩, k0, k1, kf, by simp⟩
    (fun tm x a' W => ∃ b, w3.heap.size ≤ b ∧ Blk W b #[.int .i64 x.2, .string (sv x.2)] 29 ∧ a' = { tmps := (((tm.setIfInBounds 14 (.int .u32 x.1)).setIfInBounds 15 (payVal x)).setIfInBounds 6 (.int .u32 x.1)).setIfInBounds 7 (.pointer (some ⟨b, 0, none⟩)), defers := [] }) ?hAx ?hassign ?hbody ?hdone ?hstop
  case hAx =>
    rintro x a' s A A' row ⟨b, hb, h, h2⟩ hg hr
    exact ⟨b, hb, blk_ab (Rs := []) hg (fun r hr' => .inr (hr r hr')) h (by simp), h2⟩
  case hassign =>
    intro l pre x W K hI hK
    have hf : Fr [] W (W.alloc (.cells #[.int .i64 x.2, .string (sv x.2)] 29)) := (Fr.refl _ _).alloc _
    have hk := Kpb.of_fr (S := k :: lv.ownBlock.toList) (w3.heap.size + 2) hf (fun j hj => ⟨Nat.lt_of_lt_of_le (HK.out j hj) hI.fr.size, by simp⟩) (by simp)
    have hkf := kf_of_fr w3.heap.size hf (by simp)
    have hI' := (pi_ab w w.heap.size (w.heap.size + 1) (w.heap.size + 1 + 1) stop w.heap.size (Nat.le_refl _)).fr hI hf
    have HK := Lib.hid hK
    have hge : w3.heap.size ≤ W.heap.size := by
      have := hI.out
      obtain ⟨v, hv, _⟩ := this
      have := hv.lt
      omega
    clear hK
    simp only [payVal, List.zip_toArray, Array.foldl]
    gi_wp2
    refine HK.out _ _ hkf hk hI' ⟨_, hge, Blk.new W _ _, ?_⟩
    rfl
  case hbody =>
    rintro l pre x a' W hl - hI ⟨b, hb0, hb, rfl⟩ hN
    have b0 := hb.at 0 (v := .int .i64 x.2) rfl
    have b1 := hb.at 1 (v := .string (sv x.2)) rfl
    obtain ⟨y, z⟩ := x
    dsimp only at *
    gi_wp2_with fail
    refine region_grow_in (by kernel_rfl) (by kernel_rfl) [.is (.agg #[.int .i64 z, .string (sv z)]), .is (.pointer (some ⟨b, 0, none⟩)), .is (.int .i64 z), .is (.agg #[.int .i64 z, .string (sv z)]), .is (.bool false)] 36 rfl (by kernel_rfl) [(0, 16), (1, 17), (2, 18), (3, 19), (4, 20)] (by kernel_rfl) ?_ ?_
    · intro q a1 W1 i hi hnq hd hG K hK
      have hlt : i < 5 := hi
      have hc : i = 0 ∨ i = 1 ∨ i = 2 ∨ i = 3 ∨ i = 4 := by omega
      rcases hc with rfl | rfl | rfl | rfl | rfl
      · have e7 := hG.old 7 (by kernel_rfl)
        have c0 := (hG.grown.cell (a := ⟨b, 0, none⟩) hb.lt (by simp)).trans b0
        have c1 := (hG.grown.cell (a := ⟨b, 1, none⟩) hb.lt (by simp)).trans b1
        refine op_do_in rfl (wanted_none rfl) hK (fun K' hK' => ?_)
        unfold Oper.wpIn
        go_simp
        exact hK' _ _ (Fr.refl _ _) rfl
      · have e7 := hG.old 7 (by kernel_rfl)
        refine op_do_in rfl (wanted_none rfl) hK (fun K' hK' => ?_)
        unfold Oper.wpIn
        go_simp
        exact hK' _ _ (Fr.refl _ _) rfl
      · have e17 := hG.val (v := .pointer (some ⟨b, 0, none⟩)) 1 17 (hd _ rfl ⟨1, .data⟩ (by simp) rfl) rfl rfl
        have c0 := (hG.grown.cell (a := ⟨b, 0, none⟩) hb.lt (by simp)).trans b0
        have c1 := (hG.grown.cell (a := ⟨b, 1, none⟩) hb.lt (by simp)).trans b1
        refine op_do_in rfl (wanted_none rfl) hK (fun K' hK' => ?_)
        unfold Oper.wpIn
        go_simp
        exact hK' _ _ (Fr.refl _ _) rfl
      · have e18 := hG.val (v := .int .i64 z) 2 18 (hd _ rfl ⟨2, .data⟩ (by simp) rfl) rfl rfl
        refine op_do_in rfl (wanted_none rfl) hK (fun K' hK' => ?_)
        unfold Oper.wpIn
        go_simp
        refine ⟨trivial, (callsIn_wide.2 (of_any W1 z)).mono ?_⟩
        rintro e W2 ⟨rfl, f⟩
        exact hK' _ _ f rfl
      · have e16 := hG.val (v := .agg #[.int .i64 z, .string (sv z)]) 0 16 (hd _ rfl ⟨0, .data⟩ (by simp) rfl) rfl rfl
        have e19 := hG.val (v := .agg #[.int .i64 z, .string (sv z)]) 3 19 (hd _ rfl ⟨3, .data⟩ (by simp) rfl) rfl rfl
        refine op_do_in rfl (wanted_none rfl) hK (fun K' hK' => ?_)
        unfold Oper.wpIn
        go_simp
        exact hK' _ _ (Fr.refl _ _) rfl
    · intro vs W1 f1 hv
      have r0 : vs 0 = .agg #[.int .i64 z, .string (sv z)] := hv 0 16 (by decide) rfl
      have r1 : vs 1 = .pointer (some ⟨b, 0, none⟩) := hv 1 17 (by decide) rfl
      have r2 : vs 2 = .int .i64 z := hv 2 18 (by decide) rfl
      have r3 : vs 3 = .agg #[.int .i64 z, .string (sv z)] := hv 3 19 (by decide) rfl
      have r4 : vs 4 = .bool false := hv 4 20 (by decide) rfl
      simp only [lay, List.foldl_cons, List.foldl_nil, r0, r1, r2, r3, r4]
      simp only [List.setIfInBounds_toArray, List.set_cons_zero, List.set_cons_succ]
      clear hv r0 r1 r2 r3 r4
      have hI1 := (pi_ab w w.heap.size (w.heap.size + 1) (w.heap.size + 1 + 1) stop w.heap.size (Nat.le_refl _)).fr hI f1
      have hb1 := f1.blk hb (by simp)
      obtain ⟨v, ha, hown, hge⟩ := hI1.out
      have hpl := hN
      have ca := ha.at 0 (v := v) rfl
      have cb0 := hb1.at 0 (v := .int .i64 z) rfl
      have hna := own_notin hown ha (by decide)
      have hcore : ∀ g1 cp1 w1, Appended (W1.alloc (.cells #[.int .u32 y, .int .i64 z] 154)) 154 2 v (pre.length + 1) (flat payN pre ++ [.int .u32 y, .int .i64 z]) (.slice (some ⟨g1, 0, none⟩) (pre.length + 1) cp1) w1 →
          (w1.cell? ⟨w.heap.size + 1 + 1, 0, none⟩ = some v ∧ w1.frozen? ⟨w.heap.size + 1 + 1, 0, none⟩ = false ∧
            (w1.setCell ⟨w.heap.size + 1 + 1, 0, none⟩ (.slice (some ⟨g1, 0, none⟩) (pre.length + 1) cp1)).cell? ⟨w.heap.size + 1 + 1, 0, none⟩ = some (.slice (some ⟨g1, 0, none⟩) (pre.length + 1) cp1) ∧
            (w1.setCell ⟨w.heap.size + 1 + 1, 0, none⟩ (.slice (some ⟨g1, 0, none⟩) (pre.length + 1) cp1)).cell? ⟨w.heap.size, 0, none⟩ = some (.int .i64 stop)) ∧
          KeepsFrom w3.heap.size W (w1.setCell ⟨w.heap.size + 1 + 1, 0, none⟩ (.slice (some ⟨g1, 0, none⟩) (pre.length + 1) cp1)) ∧ Kpb (k :: lv.ownBlock.toList) (w3.heap.size + 2) W (w1.setCell ⟨w.heap.size + 1 + 1, 0, none⟩ (.slice (some ⟨g1, 0, none⟩) (pre.length + 1) cp1)) ∧
          (((pre.length + 1 : Nat) : Int) = stop → PX w w.heap.size (w.heap.size + 1) (w.heap.size + 1 + 1) stop (.exit 0) (pre ++ [(y, z)]) (w1.setCell ⟨w.heap.size + 1 + 1, 0, none⟩ (.slice (some ⟨g1, 0, none⟩) (pre.length + 1) cp1))) ∧
          (((pre.length + 1 : Nat) : Int) ≠ stop → PI w w.heap.size (w.heap.size + 1) (w.heap.size + 1 + 1) stop (pre ++ [(y, z)]) (w1.setCell ⟨w.heap.size + 1 + 1, 0, none⟩ (.slice (some ⟨g1, 0, none⟩) (pre.length + 1) cp1))) := by
        intro g1 cp1 w1 h
        have F := h.fr
        have ka := F.blk (ha.alloc _) hna
        have ks := F.blk (hI1.st.alloc _) (own_notin hown hI1.st (by decide))
        have hn2 : w.heap.size + 1 ∉ v.ownBlock.toList := fun hm => by have := hge _ (by simpa using hm); omega
        have kr := F.blk (hI1.res.alloc _) hn2
        have hne : w.heap.size + 1 + 1 ∉ (Value.slice (some ⟨g1, 0, none⟩) (pre.length + 1) cp1).ownBlock.toList := own_notin h.own ka (by decide)
        have F2 : Fr ((w.heap.size + 1 + 1) :: v.ownBlock.toList) W (w1.setCell ⟨w.heap.size + 1 + 1, 0, none⟩ (.slice (some ⟨g1, 0, none⟩) (pre.length + 1) cp1)) :=
          ((((f1.mono (by simp)).alloc _).trans F (fun x hx => .inl (List.mem_cons_of_mem _ hx)))).setCell _ _ (.inl (by simp))
        obtain ⟨v0, ha0, hown0, hge0⟩ := hI.out
        have hbk : ∀ j, j ∈ (w.heap.size + 1 + 1) :: v.ownBlock.toList → w.heap.size + 1 + 1 ≤ j := by
          intro j hj
          rcases List.mem_cons.1 hj with rfl | hj
          · exact Nat.le_refl _
          · exact hge j (by simpa using hj)
        obtain rfl : v0 = v := by
          have := (f1.blk ha0 (by simp)).inj ha
          simpa using this.1
        have hcl : ∀ j, j ∈ (w.heap.size + 1 + 1) :: v0.ownBlock.toList → ∃ c e, Blk W j c e := by
          intro j hj
          rcases List.mem_cons.1 hj with rfl | hj
          · exact ⟨_, _, ha0⟩
          · obtain ⟨c, hc⟩ := own_blk hown0 j hj
            exact ⟨c, 154, hc⟩
        have hgot : ∃ u, Blk (w1.setCell ⟨w.heap.size + 1 + 1, 0, none⟩ (.slice (some ⟨g1, 0, none⟩) (pre.length + 1) cp1)) (w.heap.size + 1 + 1) #[u] 50 ∧ (w1.setCell ⟨w.heap.size + 1 + 1, 0, none⟩ (.slice (some ⟨g1, 0, none⟩) (pre.length + 1) cp1)).ownsRow 0 154 2 u (pre ++ [(y, z)]).length (flat payN (pre ++ [(y, z)])) ∧ ∀ g, u.ownBlock = some g → w.heap.size + 1 + 1 ≤ g := by
          refine ⟨_, ka.set 0 _, ?_, ?_⟩
          · have := own_fr h.own ((Fr.refl [w.heap.size + 1 + 1] w1).setCell ⟨w.heap.size + 1 + 1, 0, none⟩ (.slice (some ⟨g1, 0, none⟩) (pre.length + 1) cp1) (.inl (by simp))) (fun g hg => by
              intro hm; simp at hm; subst hm; exact hne (by simp [hg]))
            rw [flat_app, List.length_append]
            exact this
          · intro g hg
            rcases h.place with h1 | h1
            · exact hge g (by rw [← h1]; exact hg)
            · rw [h1] at hg; cases hg
              have := ha.lt
              simp; omega
        have hfr : Fr [] w (w1.setCell ⟨w.heap.size + 1 + 1, 0, none⟩ (.slice (some ⟨g1, 0, none⟩) (pre.length + 1) cp1)) := hI.fr.trans F2 (fun j hj => .inr (by have := hbk j hj; omega))
        have hl2 : (pre ++ [(y, z)]).length = pre.length + 1 := by simp
        exact ⟨⟨ka.at 0 rfl, ka.free 0, (ka.set 0 _).at 0 (by simp), (ks.other _ _ (by simp; omega)).at 0 rfl⟩, kf_of_fr _ F2 hcl, Kpb.of_fr _ F2 (fun j hj => by
            have := HK.out j hj
            have := hI.fr.size
            exact ⟨by omega, fun hm => by have := hbk j hm; omega⟩) hcl,
          fun hl => ⟨rfl, hgot, kr.other _ _ (by simp), hfr, by omega, by rw [hl2]; exact hl⟩,
          fun hl => ⟨hgot, ks.other _ _ (by simp; omega), kr.other _ _ (by simp), hfr, fun h0 => by have := hI.no h0; rw [hl2]; omega⟩⟩
      have HC := Lib.hid hcore
      have HN := Lib.hid hN
      clear hcore hna hge hN
      by_cases h4 : ((pre.length + 1 : Nat) : Int) = stop
      · gi_wp2_with (gi_at_builtin; go_must (refine wpListIn_app _ rfl _ _ 50 rfl 154 (.agg #[.int .u32 0, .int .i64 0]) 2 16 Tryd.underlying50 infoR rfl (by decide) v pre.length (flat payN pre) rfl (hown.alloc _) ⟨W1.heap.size, 0, none⟩ 1 1 [.int .u32 y, .int .i64 z] rfl rfl (new_list _ _ _ _ rfl) (by simp [Value.oneCell']) (by unfold maxLen; omega) (by omega) ?_); intro v1 w1 happ; obtain ⟨g1, cp1, rfl⟩ := own_succ happ.own; obtain ⟨⟨e1, e2, e3, e4⟩, e5, e6, e7, e8⟩ := HC.out _ _ _ happ; have E5 := Lib.hid e5; have E6 := Lib.hid e6; have E7 := Lib.hid e7; have E8 := Lib.hid e8; clear e5 e6 e7 e8)
        exact ⟨E5.out, E6.out, E7.out h4⟩
      · gi_wp2_with (gi_at_builtin; go_must (refine wpListIn_app _ rfl _ _ 50 rfl 154 (.agg #[.int .u32 0, .int .i64 0]) 2 16 Tryd.underlying50 infoR rfl (by decide) v pre.length (flat payN pre) rfl (hown.alloc _) ⟨W1.heap.size, 0, none⟩ 1 1 [.int .u32 y, .int .i64 z] rfl rfl (new_list _ _ _ _ rfl) (by simp [Value.oneCell']) (by unfold maxLen; omega) (by omega) ?_); intro v1 w1 happ; obtain ⟨g1, cp1, rfl⟩ := own_succ happ.own; obtain ⟨⟨e1, e2, e3, e4⟩, e5, e6, e7, e8⟩ := HC.out _ _ _ happ; have E5 := Lib.hid e5; have E6 := Lib.hid e6; have E7 := Lib.hid e7; have E8 := Lib.hid e8; clear e5 e6 e7 e8)
        exact ⟨E5.out, E6.out, E8.out h4⟩
  case hdone =>
    rintro D xs W hD rfl hI hen hK
    obtain ⟨v, ha, hown, hge⟩ := hI.out
    have hst : stopR xs stop = xs := by
      unfold stopR
      rw [if_neg]
      rintro ⟨h1, h2⟩
      have := hI.no h1
      omega
    obtain ⟨p, c, rfl⟩ := own_form hown
    have hlt := ha.lt
    have ca := ha.at 0 (v := .slice p xs.length c) rfl
    have fr := hI.res.free 0
    have cq := hI.res.at 0 (v := .slice none 0 0) rfl
    have HH := Lib.hid (And.intro hK (And.intro hI (And.intro hown (And.intro hge (And.intro hI.res hst)))))
    have hrl := hI.res.lt
    clear hK hI hown hge hen hst
    gi_wp2
    obtain ⟨hK, hI, hown, hge, hres, hst⟩ := HH.out
    have hne : w.heap.size + 1 ∉ (Value.slice p xs.length c).ownBlock.toList := fun hm => by have := hge _ (by simpa using hm); omega
    have hK2 : (W.setCell ⟨w.heap.size + 1, 0, none⟩ (.slice p xs.length c)).heap[D]? = some (.deferred (some [])) := by
      have : D ≠ w.heap.size + 1 := by omega
      exact (Below.heap_setCell W _ _ D this).trans hK
    have cr := ((hres.set 0 (.slice p xs.length c)).putObj hK2 rfl (.deferred none)).at 0 (v := .slice p xs.length c) rfl
    rw [hst]
    refine ⟨by simp, .inl ⟨_, _, rfl, run_takeDeferred hK2, ?_⟩⟩
    refine ⟨.slice p xs.length c, by simp [results, Tryd.results23, go_sem, cr], .slice p xs.length c, rfl, ?_, ?_⟩
    · refine RdP.of_own (n := xs.length) (own_putObj (own_fr hown ((Fr.refl [w.heap.size + 1] W).setCell _ _ (.inl (by simp))) (fun g hg hm => ?_)) hK2 rfl _)
      simp at hm
      have := hge g hg
      omega
    · exact (hI.fr.setCell _ _ (.inr (by simp))).putObj _ _ (by omega)
  case hstop =>
    rintro D c pre W hD hpre hX hen hK
    obtain ⟨rfl, ⟨v, ha, hown, hge⟩, hres, hfr, hno⟩ := hX
    have hst : stopR R stop = pre := by
      have h1 := List.prefix_iff_eq_take.1 hpre
      have h2 := hpre.length_le
      unfold stopR
      split
      · rw [h1]; congr 1; omega
      · have : pre.length = R.length := by omega
        rw [h1, this, List.take_length]
    obtain ⟨p, c, rfl⟩ := own_form hown
    have hlt := ha.lt
    have ca := ha.at 0 (v := .slice p pre.length c) rfl
    have fr := hres.free 0
    have cq := hres.at 0 (v := .slice none 0 0) rfl
    have HH := Lib.hid (And.intro hK (And.intro hfr (And.intro hown (And.intro hge (And.intro hres hst)))))
    have hrl := hres.lt
    clear hK hfr hown hge hen hst hres hno hpre
    gi_wp2
    obtain ⟨hK, hfr, hown, hge, hres, hst⟩ := HH.out
    have hne : w.heap.size + 1 ∉ (Value.slice p pre.length c).ownBlock.toList := fun hm => by have := hge _ (by simpa using hm); omega
    have hK2 : (W.setCell ⟨w.heap.size + 1, 0, none⟩ (.slice p pre.length c)).heap[D]? = some (.deferred (some [])) := by
      have : D ≠ w.heap.size + 1 := by omega
      exact (Below.heap_setCell W _ _ D this).trans hK
    have cr := ((hres.set 0 (.slice p pre.length c)).putObj hK2 rfl (.deferred none)).at 0 (v := .slice p pre.length c) rfl
    rw [hst]
    refine ⟨by simp, .inl ⟨_, _, rfl, run_takeDeferred hK2, ?_⟩⟩
    refine ⟨.slice p pre.length c, by simp [results, Tryd.results23, go_sem, cr], .slice p pre.length c, rfl, ?_, ?_⟩
    · refine RdP.of_own (n := pre.length) (own_putObj (own_fr hown ((Fr.refl [w.heap.size + 1] W).setCell _ _ (.inl (by simp))) (fun g hg hm => ?_)) hK2 rfl _)
      simp at hm
      have := hge g hg
      omega
    · exact (hfr.setCell _ _ (.inr (by simp))).putObj _ _ (by omega)
end Go.Proofs.YtgoolkgjcmdilaaDoor
