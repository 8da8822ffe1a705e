/-
  What numbers gathers of a walk.
-/
import Derived.Test.YtgoolkgjcmdilaaDoorBiH
namespace Go.Proofs.YtgoolkgjcmdilaaDoor
open Go.RowKit
set_option linter.unusedVariables false
set_option linter.unusedSimpArgs false
attribute [local go_sem] Oper.semAt_some

theorem eql79 (f : Fn) (x l : Array Value) (w : World) : (binOp .eql 79 (.func f x l) .nilFunc).run Tryd.prog w = .ok (.bool false) w := by kernel_rfl
/-- The first ones, if so many are asked for. -/
def stopI (R : List Int) (n : Int) : List Int := if 0 < n ∧ n < (R.length : Int) then R.take n.toNat else R
structure NI (w : World) (bs bo : Nat) (stop : Int) (pre : List Int) (W : World) : Prop where
  out : ∃ v, Blk W bo #[v] 82 ∧ W.ownsRow 0 3 1 v pre.length (ints pre) ∧ ∀ g, v.ownBlock = some g → bo ≤ g
  st : Blk W bs #[.int .i64 stop] 3
  fr : Fr [] w W
  no : 0 < stop → (pre.length : Int) < stop
structure NX (w : World) (bs bo : Nat) (stop : Int) (c : Code) (pre : List Int) (W : World) : Prop where
  c : c = .exit 0
  out : ∃ v, Blk W bo #[v] 82 ∧ W.ownsRow 0 3 1 v pre.length (ints pre) ∧ ∀ g, v.ownBlock = some g → bo ≤ g
  fr : Fr [] w W
  no : 0 < stop ∧ (pre.length : Int) = stop
theorem ni_ab (w : World) (bs bo : Nat) (stop : Int) (k : Nat) (hk : w.heap.size ≤ k) : Ab k [] (NI w bs bo stop) :=
  fun s A B row h hg hr => by
    obtain ⟨v, h1, h2, h3⟩ := h.out
    exact ⟨⟨v, blk_ab hg hr h1 (by simp), own_ab hg hr h2 (by simp), h3⟩, blk_ab hg hr h.st (by simp), fr_ab hg hr hk h.fr (by simp), h.no⟩
theorem nx_ab (w : World) (bs bo : Nat) (stop : Int) (k : Nat) (hk : w.heap.size ≤ k) (c : Code) : Ab k [] (NX w bs bo stop c) :=
  fun s A B row h hg hr => by
    obtain ⟨v, h1, h2, h3⟩ := h.out
    exact ⟨h.c, ⟨v, blk_ab hg hr h1 (by simp), own_ab hg hr h2 (by simp), h3⟩, fr_ab hg hr hk h.fr (by simp), h.no⟩
set_option maxRecDepth 100000 in
set_option maxHeartbeats 4000000 in
theorem numbers_of (w : World) (gf : Nat) (lb : Array Value) (Ss : List Nat) (Pre : World → Prop) (L : List Int) (stop : Int) (hL : L.length ≤ 65536) (eg : ∀ args w, (callFunc gf args).run Tryd.prog w = .ok (.enter gf args) w)
    (hT : ∀ m B0, Tells Fence.wide m Tryd.prog gf lb (fun (x : Int) => #[.int .i64 x]) [] (Kpb Ss B0) (fun xs => xs = L) (fun pre => pre <+: L) L.length Pre Pre)
    (hP : Pre w) (hst : ∀ W W', Pre W → (∀ j, j ∈ Ss → W'.heap[j]? = W.heap[j]?) → Pre W') (hS : ∀ j, j ∈ Ss → j < w.heap.size) :
    Calls Tryd.prog 38 #[.func (.func gf) #[] lb, .int .i64 stop] w fun e w' => ∃ v, e = .returned v ∧ RdInts w' v (stopI L stop) ∧ Fr [] w w' := by
  have hq := eql79
  have HE := Lib.hid (And.intro eg (And.intro hT (And.intro hP (And.intro hst hS))))
  clear eg hT hP hst hS
  refine (callsIn_wide (n := 9)).1 ?_
  refine callsIn_of_wp_marks Tryd.func38 rfl trivial ?_ rfl
  simp only [Tryd.ntmps38, List.size_toArray, List.length_cons, List.length_nil, Nat.reduceAdd, Nat.reduceSub, Array.replicate_succ, Array.replicate_zero, List.push_toArray, List.append_toArray, List.nil_append, List.cons_append]
  gi_wp2
  generalize hw3 : World.alloc _ _ = w3
  have hz : w3.heap.size = w.heap.size + 2 := by rw [← hw3]; simp
  have kf : Fr [] w w3 := by rw [← hw3]; exact ((Fr.refl [] w).alloc _).alloc _
  have k0 : Blk w3 w.heap.size #[.int .i64 stop] 3 := by rw [← hw3]; exact (Blk.new w _ _).alloc _
  have k2 : Blk w3 (w.heap.size + 1) #[.slice none 0 0] 82 := by rw [← hw3]; exact Blk.new_at (by simp) _ _
  clear hw3
  have HK := Lib.hid HE.out.2.2.2.2
  have hfs : ∀ (W W' : World), w.heap.size ≤ W.heap.size → Fr [] W W' → ∀ j, j ∈ Ss → W'.heap[j]? = W.heap[j]? := fun W W' hsz f j hj => f.block j (Nat.lt_of_lt_of_le (HK.out j hj) hsz) (by simp)
  have HFS := Lib.hid hfs
  clear hfs
  refine wpIn_range_tm (w := w3) (ps := #[11]) (encs := fun (x : Int) => #[.int .i64 x]) rfl (by decide) (gf := gf) (lb := lb) rfl trivial HE.out.1
    (HE.out.2.1 _ (w3.heap.size + 2)) Kpb.trans (fun W l o o' hl h1 h2 => Kpb.put o' (fun hm => by have := HK.out _ hm; omega) (by omega)) (fun W hf _ => HE.out.2.2.2.1 _ _ (HE.out.2.2.2.1 _ _ HE.out.2.2.1 (HFS.out _ _ (Nat.le_refl _) kf)) (HFS.out _ _ kf.size hf)) (fun W l o o' hl h1 h2 h3 => HE.out.2.2.2.1 _ _ h3 (fun j hj => World.putObj_heap_other (by have := HK.out _ hj; omega))) (by simp) (fun _ => rfl)
    (NI w w.heap.size (w.heap.size + 1) stop) (NX w w.heap.size (w.heap.size + 1) stop) (ni_ab _ _ _ _ _ (by omega)) (fun c => nx_ab _ _ _ _ _ (by omega) c)
    ⟨⟨_, k2, World.ownsRow_nil _ _ _ _, by simp [Value.ownBlock]⟩, k0, kf, by simp⟩
    (fun tm x a' W => a' = { tmps := (tm.setIfInBounds 11 (.int .i64 x)).setIfInBounds 6 (.int .i64 x), defers := [] }) ?hAx ?hassign ?hbody ?hdone ?hstop
  case hAx => exact fun x a' s A A' row h hg hr => h
  case hassign =>
    intro l pre x W K hI hK
    have HK := Lib.hid hK
    clear hK
    simp only [List.zip_toArray, Array.foldl]
    gi_wp2
    refine HK.out _ _ (KeepsFrom.refl _ _) ⟨fun _ _ => rfl, KeepsFrom.refl _ _⟩ hI ?_
    rfl
  case hbody =>
    rintro l pre x a' W hl - hI rfl hN
    obtain ⟨v, ha, hown, hge⟩ := hI.out
    have ca := ha.at 0 (v := v) rfl
    have hna := own_notin hown ha (by decide)
    have hcore : ∀ g1 cp1 w1, Appended (W.alloc (.cells #[.int .i64 x] 3)) 3 1 v (pre.length + 1) (ints pre ++ [.int .i64 x]) (.slice (some ⟨g1, 0, none⟩) (pre.length + 1) cp1) w1 →
        (w1.cell? ⟨w.heap.size + 1, 0, none⟩ = some v ∧ w1.frozen? ⟨w.heap.size + 1, 0, none⟩ = false ∧
          (w1.setCell ⟨w.heap.size + 1, 0, none⟩ (.slice (some ⟨g1, 0, none⟩) (pre.length + 1) cp1)).cell? ⟨w.heap.size + 1, 0, none⟩ = some (.slice (some ⟨g1, 0, none⟩) (pre.length + 1) cp1) ∧
          (w1.setCell ⟨w.heap.size + 1, 0, none⟩ (.slice (some ⟨g1, 0, none⟩) (pre.length + 1) cp1)).cell? ⟨w.heap.size, 0, none⟩ = some (.int .i64 stop)) ∧
        KeepsFrom w3.heap.size W (w1.setCell ⟨w.heap.size + 1, 0, none⟩ (.slice (some ⟨g1, 0, none⟩) (pre.length + 1) cp1)) ∧ Kpb Ss (w3.heap.size + 2) W (w1.setCell ⟨w.heap.size + 1, 0, none⟩ (.slice (some ⟨g1, 0, none⟩) (pre.length + 1) cp1)) ∧
        (((pre.length + 1 : Nat) : Int) = stop → NX w w.heap.size (w.heap.size + 1) stop (.exit 0) (pre ++ [x]) (w1.setCell ⟨w.heap.size + 1, 0, none⟩ (.slice (some ⟨g1, 0, none⟩) (pre.length + 1) cp1))) ∧
        (((pre.length + 1 : Nat) : Int) ≠ stop → NI w w.heap.size (w.heap.size + 1) stop (pre ++ [x]) (w1.setCell ⟨w.heap.size + 1, 0, none⟩ (.slice (some ⟨g1, 0, none⟩) (pre.length + 1) cp1))) := by
      intro g1 cp1 w1 h
      have F := h.fr
      have ka := F.blk (ha.alloc _) hna
      have ks := F.blk (hI.st.alloc _) (fun hm => by have := hge _ (by simpa using hm); omega)
      have hne : w.heap.size + 1 ∉ (Value.slice (some ⟨g1, 0, none⟩) (pre.length + 1) cp1).ownBlock.toList := own_notin h.own ka (by decide)
      have F2 : Fr ((w.heap.size + 1) :: v.ownBlock.toList) W (w1.setCell ⟨w.heap.size + 1, 0, none⟩ (.slice (some ⟨g1, 0, none⟩) (pre.length + 1) cp1)) :=
        ((((Fr.refl _ W).alloc _).trans F (fun x hx => .inl (List.mem_cons_of_mem _ hx)))).setCell _ _ (.inl (by simp))
      have hbk : ∀ j, j ∈ (w.heap.size + 1) :: v.ownBlock.toList → w.heap.size + 1 ≤ j := by
        intro j hj
        rcases List.mem_cons.1 hj with rfl | hj
        · exact Nat.le_refl _
        · exact hge j (by simpa using hj)
      have hcl : ∀ j, j ∈ (w.heap.size + 1) :: v.ownBlock.toList → ∃ c e, Blk W j c e := by
        intro j hj
        rcases List.mem_cons.1 hj with rfl | hj
        · exact ⟨_, _, ha⟩
        · obtain ⟨c, hc⟩ := own_blk hown j hj
          exact ⟨c, 3, hc⟩
      have hgot : ∃ u, Blk (w1.setCell ⟨w.heap.size + 1, 0, none⟩ (.slice (some ⟨g1, 0, none⟩) (pre.length + 1) cp1)) (w.heap.size + 1) #[u] 82 ∧ (w1.setCell ⟨w.heap.size + 1, 0, none⟩ (.slice (some ⟨g1, 0, none⟩) (pre.length + 1) cp1)).ownsRow 0 3 1 u (pre ++ [x]).length (ints (pre ++ [x])) ∧ ∀ g, u.ownBlock = some g → w.heap.size + 1 ≤ g := by
        refine ⟨_, ka.set 0 _, ?_, ?_⟩
        · have := own_fr h.own ((Fr.refl [w.heap.size + 1] w1).setCell ⟨w.heap.size + 1, 0, none⟩ (.slice (some ⟨g1, 0, none⟩) (pre.length + 1) cp1) (.inl (by simp))) (fun g hg => by
            intro hm; simp at hm; subst hm; exact hne (by simp [hg]))
          rw [ints_snoc, List.length_append]
          exact this
        · intro g hg
          rcases h.place with h1 | h1
          · exact hge g (by rw [← h1]; exact hg)
          · rw [h1] at hg; cases hg
            have := ha.lt
            simp; omega
      have hfr : Fr [] w (w1.setCell ⟨w.heap.size + 1, 0, none⟩ (.slice (some ⟨g1, 0, none⟩) (pre.length + 1) cp1)) := hI.fr.trans F2 (fun j hj => .inr (by have := hbk j hj; omega))
      have hl2 : (pre ++ [x]).length = pre.length + 1 := by simp
      exact ⟨⟨ka.at 0 rfl, ka.free 0, (ka.set 0 _).at 0 (by simp), (ks.other _ _ (by simp)).at 0 rfl⟩, kf_of_fr _ F2 hcl, Kpb.of_fr _ F2 (fun j hj => by
          have := HK.out j hj
          have := hI.fr.size
          exact ⟨by omega, fun hm => by have := hbk j hm; omega⟩) hcl,
        fun hl => ⟨rfl, hgot, hfr, by omega, by rw [hl2]; exact hl⟩,
        fun hl => ⟨hgot, ks.other _ _ (by simp), hfr, fun h0 => by have := hI.no h0; rw [hl2]; omega⟩⟩
    have HC := Lib.hid hcore
    have HN := Lib.hid hN
    have hpl := hN
    clear hcore hna hge hN
    simp only [List.setIfInBounds_toArray, List.set_cons_zero, List.set_cons_succ]
    by_cases h4 : ((pre.length + 1 : Nat) : Int) = stop
    · gi_wp2_with (gi_at_builtin; go_must (refine wpListIn_app _ rfl _ _ 82 rfl 3 (.int .i64 0) 1 8 Tryd.underlying82 iinfo rfl (by decide) v pre.length (ints pre) rfl (hown.alloc _) ⟨W.heap.size, 0, none⟩ 1 1 [.int .i64 x] rfl rfl (new_one _ _ _ _ rfl) (by simp [Value.oneCell']) (by unfold maxLen; omega) (by omega) ?_); intro v1 w1 happ; obtain ⟨g1, cp1, rfl⟩ := own_succ happ.own; obtain ⟨⟨e1, e2, e3, e4⟩, e5, e6, e7, e8⟩ := HC.out _ _ _ happ; have E5 := Lib.hid e5; have E6 := Lib.hid e6; have E7 := Lib.hid e7; have E8 := Lib.hid e8; clear e5 e6 e7 e8)
      exact ⟨E5.out, E6.out, E7.out h4⟩
    · gi_wp2_with (gi_at_builtin; go_must (refine wpListIn_app _ rfl _ _ 82 rfl 3 (.int .i64 0) 1 8 Tryd.underlying82 iinfo rfl (by decide) v pre.length (ints pre) rfl (hown.alloc _) ⟨W.heap.size, 0, none⟩ 1 1 [.int .i64 x] rfl rfl (new_one _ _ _ _ rfl) (by simp [Value.oneCell']) (by unfold maxLen; omega) (by omega) ?_); intro v1 w1 happ; obtain ⟨g1, cp1, rfl⟩ := own_succ happ.own; obtain ⟨⟨e1, e2, e3, e4⟩, e5, e6, e7, e8⟩ := HC.out _ _ _ happ; have E5 := Lib.hid e5; have E6 := Lib.hid e6; have E7 := Lib.hid e7; have E8 := Lib.hid e8; clear e5 e6 e7 e8)
      exact ⟨E5.out, E6.out, E8.out h4⟩
  case hdone =>
    rintro D xs W hD rfl hI hen hK
    obtain ⟨v, ha, hown, hge⟩ := hI.out
    have hst : stopI xs stop = xs := by
      unfold stopI
      rw [if_neg]
      rintro ⟨h1, h2⟩
      have := hI.no h1
      omega
    have hlt := ha.lt
    have ca := ha.at 0 (v := v) rfl
    have HH := Lib.hid (And.intro hK (And.intro hI.fr (And.intro hown hst)))
    clear hK hI hown hge hen hst
    gi_wp2
    obtain ⟨hK, hfr, hown, hst⟩ := HH.out
    rw [hst]
    refine ⟨by simp, .inl ⟨_, _, rfl, run_takeDeferred hK, ?_⟩⟩
    exact ⟨_, results_tmp rfl _ _ _, v, rfl, RdInts.of_own (own_putObj hown hK rfl _), hfr.putObj _ _ (by omega)⟩
  case hstop =>
    rintro D c pre W hD hpre hX hen hK
    obtain ⟨rfl, ⟨v, ha, hown, hge⟩, hfr, hno⟩ := hX
    have hst : stopI L stop = pre := by
      have h1 := List.prefix_iff_eq_take.1 hpre
      have h2 := hpre.length_le
      unfold stopI
      split
      · rw [h1]; congr 1; omega
      · have : pre.length = L.length := by omega
        rw [h1, this, List.take_length]
    have hlt := ha.lt
    have ca := ha.at 0 (v := v) rfl
    have HH := Lib.hid (And.intro hK (And.intro hfr (And.intro hown hst)))
    clear hK hfr hown hge hen hst hno hpre
    gi_wp2
    obtain ⟨hK, hfr, hown, hst⟩ := HH.out
    rw [hst]
    refine ⟨by simp, .inl ⟨_, _, rfl, run_takeDeferred hK, ?_⟩⟩
    exact ⟨_, results_tmp rfl _ _ _, v, rfl, RdInts.of_own (own_putObj hown hK rfl _), hfr.putObj _ _ (by omega)⟩
end Go.Proofs.YtgoolkgjcmdilaaDoor
