/-
  Box of a sender: a copy of what is in the box, by contract.
-/
import Derived.Test.YtehdhdocalbfpaaPlayG
namespace Go.Proofs.Ytehdhdocalbfpaa
open Go.RowKit Go.Shelf ring
set_option linter.unusedVariables false
attribute [local go_sem ↓] newVar56
attribute [local go_sem] Oper.semAt_some ev_layEv_same can_new run_storeEv0 run_newEv run_newEv'

theorem Kpb.of_fr {S T : List Nat} {W W' : World} (B : Nat) (h : Fr T W W') (hs : ∀ k, k ∈ S → k < W.heap.size ∧ k ∉ T) (ht : ∀ k, k ∈ T → ∃ c e, Blk W k c e) : Kpb S B W W' :=
  ⟨fun k hk => h.block k (hs k hk).1 (hs k hk).2, kf_of_fr B h ht⟩
/-- What Box holds: the list so far. -/
def BI (w : World) (z k B0 : Nat) (lv : Value) (P : List (Int × Ev)) (W : World) : Prop :=
  ∃ ov, Mk w W z (P.map (·.2)) ov ∧ (∀ g, ov.ownBlock = some g → g ∉ k :: lv.ownBlock.toList) ∧ B0 ≤ W.heap.size
theorem bi_ab (w : World) (z k B B0 : Nat) (lv : Value) (hB : w.heap.size ≤ B) : Ab B [] (BI w z k B0 lv) := by
  intro s A A' row h hg hr
  obtain ⟨ov, hm, hn, hs⟩ := h
  exact ⟨ov, ⟨blk_ab hg hr hm.bl (by simp), own_ab hg hr hm.ow (by simp), hm.nw, fr_ab hg hr hB hm.fr (by simp)⟩, hn, Nat.le_trans hs hg.size⟩
theorem numbered_snd (L : List Ev) : (numbered L).map (·.2) = L := by
  simp only [numbered, List.map_map]
  have : ((fun x : Int × Ev => x.2) ∘ fun p : Ev × Nat => ((p.2 : Int), p.1)) = Prod.fst := rfl
  rw [this, List.zipIdx_map_fst]
set_option maxRecDepth 100000 in
set_option maxHeartbeats 2000000 in
theorem box_any (w : World) (S : List Nat) (sb win tmo most acked : Nat) (L : List Ev) (A : List Int) (h : Snd w S sb win tmo most acked L A) : Calls Try.prog 26 #[.pointer (some ⟨sb, 0, none⟩)] w fun e w' => ∃ v, e = .returned v ∧ w'.ownsRow 0 56 8 v L.length (evs L) ∧ (∀ g, v.ownBlock = some g → w.heap.size ≤ g) ∧ Fr [] w w' := by
  have hLm := h.len
  have hmm := h.lm
  obtain ⟨rb, g, Cs, f, atv, hS, hb, hr, ho⟩ := h.ex
  have fa := (Fr.refl [] w).alloc (.cells #[.slice none 0 0] 42)
  obtain ⟨z, hz⟩ : ∃ z, z = w.heap.size := ⟨_, rfl⟩
  have hA : Mk w (w.alloc (.cells #[.slice none 0 0] 42)) z [] (.slice none 0 0) := by
    rw [hz]
    exact ⟨Blk.new _ _ _, World.ownsRow_nil _ _ _ _, fun g hg => by simp [Value.ownBlock] at hg, fa⟩
  have hb1 := fa.blk hb (by simp)
  have hr1 := hr.fr fa (by simp) (by simp)
  have HZ := Lib.hid (And.intro fa (And.intro hA hz))
  clear h hS hb hr ho
  refine (callsIn_wide (n := 9)).1 ?_
  refine callsIn_of_wp_marks Try.func26 rfl trivial ?_ rfl
  simp only [Try.ntmps26, List.size_toArray, List.length_cons, List.length_nil, Nat.reduceAdd, Nat.reduceSub, Array.replicate_succ, Array.replicate_zero, List.push_toArray, List.append_toArray, List.nil_append, List.cons_append]
  gi_wp2_with fail
  simp only [← hz]
  clear hz fa hA
  generalize (w.alloc _) = w1 at *
  have c3 := hb1.at 3 (v := .pointer (some ⟨rb, 0, none⟩)) rfl
  have ht := Lib.hid (sthere_ok w1 sb rb c3)
  have hl := Lib.hid (eall_any w1 rb g Cs f L most hr1)
  clear hb1 hr1
  refine ⟨trivial, ?_⟩
  refine (callsIn_wide.2 ht.out).mono ?_
  rintro e w2 ⟨rfl, rfl⟩
  gi_wp2_with fail
  refine ⟨trivial, ?_⟩
  refine (callsIn_wide.2 hl.out).mono ?_
  rintro e w3 ⟨lv, rfl, hk⟩
  obtain ⟨k, hkk⟩ : ∃ k, k = w1.heap.size := ⟨_, rfl⟩
  rw [← hkk] at hk ⊢
  have HK3 := Lib.hid (And.intro hk hkk)
  have EH : BI w z k w3.heap.size lv [] w3 := ⟨.slice none 0 0, HZ.out.2.1.fr0 hk.fr, fun g hg => by simp [Value.ownBlock] at hg, Nat.le_refl _⟩
  have EH := Lib.hid EH
  have hzk : z ∉ k :: lv.ownBlock.toList := by
    have hz1 := HZ.out.2.1.bl.lt
    intro hm
    rcases List.mem_cons.1 hm with hm | hm
    · omega
    · have := hk.nw z (by simpa using hm); omega
  have hks : ∀ j, j ∈ k :: lv.ownBlock.toList → j < w3.heap.size := fun j hj => by
    rcases List.mem_cons.1 hj with hj | hj
    · rw [hj]; exact hk.bl.lt
    · exact own_lt hk.ow (by simpa using hj)
  have HS := Lib.hid (And.intro hzk hks)
  have F0 := Lib.hid (HZ.out.1.trans hk.fr (by simp))
  clear hk hkk c3 hzk hks
  gi_wp2_with fail
  refine wpIn_range_tm (w := w3) (ps := #[13, 14]) (encs := fun (x : Int × Ev) => #[.int .i64 x.1, x.2.val]) rfl (by decide) (gf := 79) (lb := #[.pointer (some ⟨k, 0, none⟩)]) rfl trivial (enters_of Try.func79 (by kernel_rfl) rfl)
    (eall_tells_any _ k (w3.heap.size + 2) lv L (by omega)) Kpb.trans (fun W l o o' hl h1 h2 => Kpb.put o' (by have := HS.out.2; intro hm; have := HS.out.2 l hm; omega) (by omega)) (fun W hf _ => (show EHeld k lv L w3 from ⟨HK3.out.1.bl, HK3.out.1.ow⟩).fr0 hf) (fun W l o o' hl h1 h2 h3 => h3.kpb (Kpb.put o' (B := l + 1) (by intro hm; have := HS.out.2 l hm; omega) (by omega))) (by simp) (fun _ => rfl)
    (BI w z k w3.heap.size lv) (fun _ _ _ => False) (bi_ab w z k _ _ lv F0.out.size) (fun c s A A' row h hg hr => h)
    EH.out
    (fun tm x a' W => ∃ y, a' = { tmps := ((tm.setIfInBounds 13 (.int .i64 x.1)).setIfInBounds 14 x.2.val).setIfInBounds 5 (.pointer (some ⟨y, 0, none⟩)), defers := [] } ∧ Blk W y x.2.cells.toArray 56) ?hAx ?hassign ?hbody ?hdone ?hstop
  case hAx =>
    intro x a' s A A' row h hg hr
    obtain ⟨y, h1, h2⟩ := h
    exact ⟨y, h1, blk_ab (Rs := []) hg (fun r e => .inr (hr r e)) h2 (by simp)⟩
  case hassign =>
    intro l pre x W K hI hK
    have HK := Lib.hid hK
    clear hK
    simp only [List.zip_toArray, Array.foldl]
    have hcan := can_new W
    gi_wp2
    have f : Fr [] W (layEv (W.alloc (.cells Ev.zero.cells.toArray 56)) W.heap.size 0 x.2) := (((Fr.refl [W.heap.size] W).alloc _).setEv 0 x.2 (.inl (by simp))).mono (by simp)
    have kf : ∀ B, KeepsFrom B W (layEv (W.alloc (.cells Ev.zero.cells.toArray 56)) W.heap.size 0 x.2) := fun B => ⟨f.size, fun k o _ hk _ => (f.block k (Array.getElem?_eq_some_iff.1 hk).1 (by simp)).trans hk⟩
    obtain ⟨ov, hm, hn, hs⟩ := hI
    refine HK.out _ _ (kf _) ⟨fun j hj => ?_, kf _⟩ ⟨ov, hm.fr0 f, hn, Nat.le_trans hs f.size⟩ ⟨W.heap.size, rfl, (Blk.new W Ev.zero.cells.toArray 56).setOne⟩
    exact f.block j (by have := HS.out.2 j hj; omega) (by simp)
  case hbody =>
    rintro l pre x a' W hl - hI ⟨y, rfl, hy⟩ hN
    obtain ⟨ov, hm, hn, hs⟩ := hI
    obtain ⟨p1, cc1, hov⟩ := own_form hm.ow
    rw [List.length_map] at hov
    have hzw : w.heap.size ≤ z := by have := HZ.out.2.2; omega
    have hcore : ∀ v1 w4, Appended (W.alloc (.cells x.2.cells.toArray 56)) 56 8 ov (pre.length + 1) (evs (pre.map (·.2)) ++ x.2.cells) v1 w4 →
        (w4.cell? ⟨z, 0, none⟩ = some ov ∧ w4.frozen? ⟨z, 0, none⟩ = false) ∧ KeepsFrom w3.heap.size W (w4.setCell ⟨z, 0, none⟩ v1) ∧ Kpb (k :: lv.ownBlock.toList) (w3.heap.size + 2) W (w4.setCell ⟨z, 0, none⟩ v1) ∧ BI w z k w3.heap.size lv (pre ++ [x]) (w4.setCell ⟨z, 0, none⟩ v1) := by
      intro v1 w4 happ
      have ha1 : Fr [] W (W.alloc (.cells x.2.cells.toArray 56)) := (Fr.refl [] W).alloc _
      have happ2 : Appended (W.alloc (.cells x.2.cells.toArray 56)) 56 8 ov ((pre.map (·.2)).length + 1) (evs (pre.map (·.2)) ++ x.2.cells) v1 w4 := by rw [List.length_map]; exact happ
      obtain ⟨q1, q3⟩ := (hm.fr0 ha1).app hzw happ2
      have F : Fr (z :: ov.ownBlock.toList) W (w4.setCell ⟨z, 0, none⟩ v1) :=
        ((((Fr.refl _ W).alloc _).trans happ.fr (fun x hx => .inl (List.mem_cons_of_mem _ hx)))).setCell _ _ (.inl (by simp))
      have hbk : ∀ j, j ∈ z :: ov.ownBlock.toList → ∃ c e, Blk W j c e := by
        intro j hj
        rcases List.mem_cons.1 hj with rfl | hj
        · exact ⟨_, _, hm.bl⟩
        · obtain ⟨c, hc⟩ := own_blk hm.ow j (by simpa using hj)
          exact ⟨c, 56, hc⟩
      refine ⟨q1, kf_of_fr _ F hbk, Kpb.of_fr _ F ?_ hbk, v1, by rw [List.map_append]; exact q3, ?_, Nat.le_trans hs F.size⟩
      · intro j hj
        refine ⟨by have := HS.out.2 j hj; omega, ?_⟩
        intro hm2
        rcases List.mem_cons.1 hm2 with hm2 | hm2
        · exact HS.out.1 (by rw [← hm2]; exact hj)
        · exact hn j (by simpa using hm2) hj
      · intro g' hg' hg2
        rcases happ.place with hp | hp
        · exact hn g' (by rw [← hp]; exact hg') hg2
        · rw [hp] at hg'
          simp at hg'
          have := HS.out.2 g' hg2
          omega
    have HC := Lib.hid hcore
    have HO := Lib.hid (show (W.alloc (.cells x.2.cells.toArray 56)).ownsRow 0 56 8 ov pre.length (evs (pre.map (·.2))) by
      have := (hm.fr0 ((Fr.refl [] W).alloc (.cells x.2.cells.toArray 56))).ow
      rw [List.length_map] at this
      exact this)
    have c1 := hm.bl.at 0 (v := ov) rfl
    have ey := hy.one
    have hfold := fold_ev
    have hlen8 : ∀ e : Ev, e.cells.length = 8 := fun e => rfl
    have hlenL : pre.length < L.length := hN
    have HM := Lib.hid hm
    clear hcore hm hy hn
    subst hov
    gi_wp2_with (gi_at_builtin; go_must (refine wpListIn_app _ rfl _ _ 42 rfl 56 Ev.zero.val 8 40 Try.underlying42 info56b rfl (by decide) (.slice p1 pre.length cc1) pre.length (evs (pre.map (·.2))) rfl HO.out ⟨W.heap.size, 0, none⟩ 1 1 x.2.cells rfl rfl (pnew_cells W x.2) (pev_one x.2) (by unfold maxLen; omega) (by omega) ?_); intro v1 w4 happ; obtain ⟨g1, cp1, rfl⟩ := own_succ happ.own; obtain ⟨⟨q1, q2⟩, q3⟩ := HC.out _ _ happ; have Q3 := Lib.hid q3; clear q3 happ)
    exact Q3.out
  case hdone =>
    rintro D xs W hD rfl hI hen hK
    obtain ⟨ov, hm, hn, hs⟩ := hI
    rw [numbered_snd] at hm
    have HM := Lib.hid hm
    have HD := Lib.hid (And.intro hD hK)
    have ca := hm.bl.at 0 (v := ov) rfl
    obtain ⟨p1, cc1, hov⟩ := own_form hm.ow
    subst hov
    have hff : Fr [] w (W.putObj D (.deferred none)) := hm.fr.putObj D _ (by have := HD.out.1; have := F0.out.size; omega)
    have HF := Lib.hid hff
    clear hff hm hn hen hK hD
    gi_wp2_with fail
    refine ⟨by simp, .inl ⟨_, _, rfl, run_takeDeferred HD.out.2, ?_⟩⟩
    refine ⟨.slice p1 L.length cc1, ?_, _, rfl, ?_, HM.out.nw, HF.out⟩
    · simp [results, Try.results26, go_sem]
    · exact own_putObj HM.out.ow HD.out.2 rfl _
  case hstop => exact fun D c pre W _ _ h => h.elim

end Go.Proofs.Ytehdhdocalbfpaa
