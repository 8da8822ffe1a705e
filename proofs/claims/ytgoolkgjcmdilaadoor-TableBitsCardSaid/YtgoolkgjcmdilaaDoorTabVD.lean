/-
  Tables of V: slices.Insert.
-/
import Derived.Test.YtgoolkgjcmdilaaDoorTabVC
import Derived.Test.YtgoolkgjcmdilaaDoorRow
import Derived.Deep.RegionLaw
import Derived.Shelf.RegionOpenPlain
namespace Go.Proofs.YtgoolkgjcmdilaaDoor
open Go.RowKit
set_option linter.unusedVariables false
set_option linter.unusedSimpArgs false
attribute [local go_sem] Oper.semAt_some

theorem infoV : (Tryd.prog.info? 143).map (fun i => (i.zero, i.size, i.bytes)) = some (some (.agg #[.int .u32 0, .int .i64 0, .string ⟨#[]⟩]), 3, 32) := by kernel_rfl
theorem sizeV : (Tryd.prog.info? 143).map (·.size) = some 3 := by kernel_rfl
def oneV (p : Int) (x : Int × ByteArray) : List Value := [.int .u32 p, .int .i64 x.1, .string x.2]
theorem oneV_flat (p : Int) (x : Int × ByteArray) : flat payV [(p, x)] = oneV p x := rfl
theorem oneV_len (p : Int) (x : Int × ByteArray) : (oneV p x).length = 3 := rfl
theorem oneV_one (p : Int) (x : Int × ByteArray) : ∀ v ∈ oneV p x, v.oneCell' = true := by
  intro v hv
  rw [← oneV_flat] at hv
  exact flat_one wideV _ v hv
def InsVPost (w : World) (v : Value) (Ps : List (Int × (Int × ByteArray))) (i : Nat) (p : Int) (x : Int × ByteArray) (e : Ending) (w' : World) : Prop :=
  ∃ v', e = .returned v' ∧ w'.ownsRow 0 143 3 v' (Ps.length + 1) (flat payV (Ps.take i ++ (p, x) :: Ps.drop i)) ∧ v'.ownBlock ≠ none ∧ (v'.ownBlock = v.ownBlock ∨ ∃ g, v'.ownBlock = some g ∧ w.heap.size ≤ g) ∧ Fr v.ownBlock.toList w w'
theorem insV_flat (Ps : List (Int × (Int × ByteArray))) (i : Nat) (p : Int) (x : Int × ByteArray) : flat payV (Ps.take i ++ (p, x) :: Ps.drop i) = (flat payV Ps).take (i * 3) ++ oneV p x ++ (flat payV Ps).drop (i * 3) := by
  rw [flat_app, flat_cons, flat_take wideV, flat_drop wideV, List.append_assoc]
  rfl

set_option maxRecDepth 100000 in
set_option maxHeartbeats 4000000 in
/-- At the end. -/
theorem insV_end (w : World) (v : Value) (Ps : List (Int × (Int × ByteArray))) (p : Int) (x : Int × ByteArray) (bv : Nat) (h : w.ownsRow 0 143 3 v Ps.length (flat payV Ps)) (hl : Ps.length < 65536) (hv : Blk w bv (oneV p x).toArray 143) :
    Calls Tryd.prog 64 #[v, .int .i64 Ps.length, .slice (some ⟨bv, 0, none⟩) 1 1] w (InsVPost w v Ps Ps.length p x) := by
  have hvs : ∀ j u, (oneV p x)[j]? = some u → w.cell? ((⟨bv, 0, none⟩ : Addr).add j) = some u := fun j u hj => by
    rw [Addr.add_lit]
    have := hv.at j (v := u) (by simpa using hj)
    simpa using this
  have H := Lib.hid (And.intro h hvs)
  obtain ⟨xs, hxs⟩ : ∃ xs, xs = flat payV Ps := ⟨_, rfl⟩
  have hE : flat payV (Ps.take Ps.length ++ (p, x) :: Ps.drop Ps.length) = xs ++ oneV p x := by
    rw [insV_flat, List.take_of_length_le (by rw [flat_len wideV]; omega), List.drop_of_length_le (by rw [flat_len wideV]; omega), List.append_nil, hxs]
  rw [← hxs] at h
  have hn : v = .slice none 0 0 ∨ ∃ g cap, v = .slice (some ⟨g, 0, none⟩) Ps.length cap := by
    rcases h.2 with ⟨rfl, h0⟩ | ⟨g, cap, _, rfl, _⟩
    · exact .inl rfl
    · exact .inr ⟨g, cap, rfl⟩
  obtain ⟨n, hn'⟩ : ∃ n, n = Ps.length := ⟨_, rfl⟩
  have hn0 : v = .slice none 0 0 → n = 0 := fun e => by
    subst e
    rcases h.2 with ⟨_, h0⟩ | ⟨g, cap, _, e, _⟩
    · omega
    · cases e
  have HP := Lib.hid (show ∀ v' w', Appended w 143 3 v (n + 1) (xs ++ oneV p x) v' w' → InsVPost w v Ps n p x (.returned v') w' from fun v' w' ha => by
    refine ⟨v', rfl, ?_, ?_, ?_, ha.fr⟩
    · rw [hn', hE, ← hn']; exact ha.own
    · obtain ⟨g, c, e⟩ := own_succ ha.own
      rw [e]; simp [Value.ownBlock]
    · rcases ha.place with e | e
      · exact .inl e
      · exact .inr ⟨_, e, Nat.le_refl _⟩)
  rw [← hn'] at h hl hn ⊢
  have H2 := Lib.hid h
  clear h hv hvs hE hxs hn'
  have HO := Lib.hid (oneV_one p x)
  generalize hone : oneV p x = vs at *
  have hvl : vs.length = 3 := by rw [← hone]; rfl
  clear hone
  rcases hn with rfl | ⟨g, cap, rfl⟩
  · obtain rfl : n = 0 := hn0 rfl
    clear hn0
    go_enter Tryd.func64, Tryd.ntmps64
    go_wp2_with (at_builtin; go_must (refine wpList_app _ rfl _ _ 66 rfl 143 (.agg #[.int .u32 0, .int .i64 0, .string ⟨#[]⟩]) 3 32 Tryd.underlying66 infoV rfl (by decide) _ 0 xs rfl H2.out ⟨bv, 0, none⟩ 1 1 vs rfl (by rw [hvl]) H.out.2 HO.out (by unfold maxLen; omega) (by omega) ?_); intro v1 w3 happ; have HAP := Lib.hid happ; clear happ)
    all_goals (go_ret; exact HP.out _ _ HAP.out)
  · clear hn0
    go_enter Tryd.func64, Tryd.ntmps64
    go_wp2_with (at_builtin; go_must (refine wpList_app _ rfl _ _ 66 rfl 143 (.agg #[.int .u32 0, .int .i64 0, .string ⟨#[]⟩]) 3 32 Tryd.underlying66 infoV rfl (by decide) _ n xs rfl H2.out ⟨bv, 0, none⟩ 1 1 vs rfl (by rw [hvl]) H.out.2 HO.out (by unfold maxLen; omega) (by omega) ?_); intro v1 w3 happ; have HAP := Lib.hid happ; clear happ)
    all_goals (go_ret; exact HP.out _ _ HAP.out)

theorem ovlV_no (w : World) (bv g lb cb o : Nat) (p : Int) (x : Int × ByteArray) (cur : Array Value) (hv : Blk w bv (oneV p x).toArray 143) (hg : Blk w g cur 143) (hne : bv ≠ g) (hc : cur.size ≠ 0) :
    (callFunc 129 #[.slice (some ⟨bv, 0, none⟩) 1 1, .slice (some ⟨g, o, none⟩) lb cb]).run Tryd.prog w = .ok (.value (.bool false)) w := by
  rw [run_callFunc_extern Tryd.func129 (by kernel_rfl) (by kernel_rfl) (by kernel_rfl) (e := Extern.SlicesOverlaps.overlaps #[66, 66] #[4]) (by kernel_rfl),
    Lib.run_overlaps_apart w 66 4 143 Tryd.underlying66 3 (fun w => by kernel_rfl) ⟨bv, 0, none⟩ ⟨g, o, none⟩ 1 1 lb cb hne 143 143 3 cur.size (by unfold World.shape?; rw [hv]; rfl) (by unfold World.shape?; rw [hg]) hc (hv.free 0) (hv.free 3)]
  rfl
set_option maxRecDepth 100000 in
set_option maxHeartbeats 4000000 in
/-- In the midst, in place. -/
theorem insV_room (w : World) (g cap : Nat) (cur : Array Value) (Ps : List (Int × (Int × ByteArray))) (i : Nat) (p : Int) (x : Int × ByteArray) (bv : Nat) (hg : Blk w g cur 143) (hm : cap ≤ maxLen) (hcs : cur.size = cap * 3) (htake : cur.toList.take (Ps.length * 3) = flat payV Ps)
    (hi : i < Ps.length) (hnc : Ps.length < cap) (hl : Ps.length < 65536) (hv : Blk w bv (oneV p x).toArray 143) (hne : bv ≠ g) :
    Calls Tryd.prog 64 #[.slice (some ⟨g, 0, none⟩) Ps.length cap, .int .i64 i, .slice (some ⟨bv, 0, none⟩) 1 1] w (InsVPost w (.slice (some ⟨g, 0, none⟩) Ps.length cap) Ps i p x) := by
  obtain ⟨xs, hxs⟩ : ∃ xs, xs = flat payV Ps := ⟨_, rfl⟩
  have hxl : xs.length = Ps.length * 3 := by rw [hxs]; exact flat_len wideV Ps
  have hE := insV_flat Ps i p x
  rw [← hxs] at hE htake
  obtain ⟨n, hn⟩ : ∃ n, n = Ps.length := ⟨_, rfl⟩
  obtain ⟨vs, hvs⟩ : ∃ vs, vs = oneV p x := ⟨_, rfl⟩
  have hvl : vs.length = 3 := by rw [hvs]; rfl
  have hvo : ∀ v ∈ vs, v.oneCell' = true := by rw [hvs]; exact oneV_one p x
  have hxo : ∀ v ∈ xs.drop (i * 3), v.oneCell' = true := fun v hv => flat_one wideV Ps v (hxs ▸ List.mem_of_mem_drop hv)
  rw [← hn] at hi hnc hl hxl htake ⊢
  have htk : cur.toList.take xs.length = xs := by rw [hxl]; exact htake
  have hcl : cur.toList.length = cap * 3 := by simpa using hcs
  have hfit : xs.length + 3 ≤ cur.toList.length := by rw [hxl, hcl]; omega
  have hpl : i * 3 ≤ xs.length := by rw [hxl]; omega
  have hov := fun lb cb o => ovlV_no w bv g lb cb o p x cur hv hg hne (by rw [hcs]; omega)
  have hc63 : cap ≤ 9223372036854775807 := by unfold maxLen at hm; omega
  have hsrc1 : ∀ j u, (xs.drop (i * 3))[j]? = some u → w.drew.cell? ((⟨g, i * 3, none⟩ : Addr).add j) = some u := fun j u hj => by
    rw [Addr.add_lit]
    rw [List.getElem?_drop] at hj
    have hj2 : cur.toList[i * 3 + j]? = some u := by
      rw [← htk, List.getElem?_take] at hj
      split at hj
      · exact hj
      · cases hj
    exact hg.at (i * 3 + j) (by simpa using hj2)
  have hmn : Nat.min (n + 1 - i) (n - i) = n - i := by simp only [Nat.min_def]; split <;> omega
  have hmn2 : Nat.min 1 (n + 1 - i) = 1 := by simp only [Nat.min_def]; split <;> omega
  have hcp1 : ∀ ty dc sc, (Builtin.copy_ #[66, 66] ty #[.slice (some ⟨g, i * 3 + 3, none⟩) (n - i) dc, .slice (some ⟨g, i * 3, none⟩) (n + 1 - i) sc]).run Tryd.prog w.drew = .ok (goInt ((n - i : Nat) : Int)) (w.drew.setRow g (up1 cur.toList xs (i * 3) 3).toArray) := fun ty dc sc => by
    have h := run_copy_k w.drew 66 66 ty 143 3 g (i * 3 + 3) (n - i) dc ⟨g, i * 3, none⟩ (n + 1 - i) sc cur 143 (xs.drop (i * 3)) Tryd.underlying66 sizeV hg
      (by rw [List.length_drop, hxl, hmn]; omega) hsrc1 (by rw [List.length_drop, hxl, hcs]; omega) hxo
    rw [hmn] at h
    exact h
  obtain ⟨W1, hW1⟩ : ∃ W1, W1 = w.drew.setRow g (up1 cur.toList xs (i * 3) 3).toArray := ⟨_, rfl⟩
  have hg1 : Blk W1 g (up1 cur.toList xs (i * 3) 3).toArray 143 := by rw [hW1]; exact setRow_heap w.drew g cur _ 143 _ hg
  have hv1 : Blk W1 bv vs.toArray 143 := by rw [hW1, hvs]; exact (setRow_other w.drew g bv _ hne).trans hv
  have hcp2 : ∀ ty dc, (Builtin.copy_ #[66, 66] ty #[.slice (some ⟨g, i * 3, none⟩) (n + 1 - i) dc, .slice (some ⟨bv, 0, none⟩) 1 1]).run Tryd.prog W1 = .ok (goInt (1 : Nat)) (W1.setRow g (up2 cur.toList xs vs (i * 3) 3).toArray) := fun ty dc => by
    have h := run_copy_k W1 66 66 ty 143 3 g (i * 3) (n + 1 - i) dc ⟨bv, 0, none⟩ 1 1 _ 143 vs Tryd.underlying66 sizeV hg1
      (by rw [hmn2, hvl]) (fun j u hj => by rw [Addr.add_lit]; exact hv1.at (0 + j) (by simpa using hj)) (by have := up1_len (K := 3) hpl hfit; rw [hcl] at this; rw [List.size_toArray, this, hvl]; omega) hvo
    rw [hmn2] at h
    simpa [up2] using h
  have HW := Lib.hid (And.intro hW1 (And.intro hg1 hv1))
  rw [← hW1] at hcp1
  have HC1 := Lib.hid hcp1
  have HC2 := Lib.hid hcp2
  have HOV := Lib.hid hov
  have hz2 : ¬ ((i : Int) = (n : Int)) := by omega
  have hb1 : (0 : Int) ≤ (i : Int) + 1 := by omega
  have hin : i ≤ n := by omega
  have hb2 : ¬ (cap = i + 1) := by omega
  have hb3 : (i : Int) ≤ (n : Int) + 1 := by omega
  have hb4 : ¬ (cap = i) := by omega
  have hb5 : ¬ (cap : Int) < (n : Int) + 1 := by omega
  have mixed : Tryd.prog.follows Departure.mixedOrders = true := by kernel_rfl
  have hw1 : IntKind.i64.wrap ((i : Int) + 1) = (i : Int) + 1 := wr (by omega)
  have htn : ((i : Int) + 1).toNat = i + 1 := by omega
  have hb6 : (i : Int) + 1 ≤ (n : Int) + 1 := by omega
  have HALL := Lib.hid (And.intro hE (And.intro hn (And.intro htk (And.intro hfit (And.intro hpl (And.intro hvl (And.intro hvs (And.intro hxl (And.intro hcl (And.intro hg hm))))))))))
  clear hE hn htk hfit hpl hvl hvs hxl hcl hg hm hvo hxo hsrc1 hv hg1 hv1 hcp1 hcp2 hW1 hmn hmn2 htake hcs hxs
  go_enter Tryd.func64, Tryd.ntmps64
  go_wp2_with (simp only [HOV.out])
  go_region_law_o (refine step_copyR rfl _ _ 66 66 rfl (.slice (some ⟨g, i * 3 + 3, none⟩) (n - i) (cap - (i + 1))) (.slice (some ⟨g, i * 3, none⟩) (n + 1 - i) (cap - i)) (by simp [Act.eval, Act.put]) (by simp [Act.eval, Act.put]) (HC1.out 3 (cap - (i + 1)) (cap - i)) ?_)
  go_wp2_with (refine wpList_copyR _ rfl _ _ 66 66 rfl (.slice (some ⟨g, i * 3, none⟩) (n + 1 - i) (cap - i)) (.slice (some ⟨bv, 0, none⟩) 1 1) rfl rfl (HC2.out 3 (cap - i)) ?_)
  go_ret
  obtain ⟨hE, hn, htk, hfit, hpl, hvl, hvs, hxl, hcl, hg, hm⟩ := HALL.out
  obtain ⟨hW1, hg1, hv1⟩ := HW.out
  refine ⟨.slice (some ⟨g, 0, none⟩) (n + 1) cap, rfl, ⟨?_, .inr ⟨g, cap, _, by rw [← hn], Nat.zero_le _, setRow_heap W1 g _ _ 143 _ hg1, by omega, hm, ?_, ?_⟩⟩, by simp [Value.ownBlock], .inl rfl, ?_⟩
  · rw [flat_len wideV]
    simp; omega
  · rw [List.size_toArray, up2_len hpl hfit hvl, hcl]
  · have := up2_take hpl htk hfit hvl
    rw [hE, ← hvs, ← this, hxl, ← hn]
    rw [show (n + 1) * 3 = n * 3 + 3 by omega]
  · rw [hW1]
    exact (((Fr.refl _ w).drew).setRow g _ (.inl (by simp [Value.ownBlock]))).setRow g _ (.inl (by simp [Value.ownBlock]))
set_option maxRecDepth 100000 in
set_option maxHeartbeats 4000000 in
/-- In the midst, no room. -/
theorem insV_grow (w : World) (g cap : Nat) (Ps : List (Int × (Int × ByteArray))) (i : Nat) (p : Int) (x : Int × ByteArray) (bv : Nat) (h : w.ownsRow 0 143 3 (.slice (some ⟨g, 0, none⟩) Ps.length cap) Ps.length (flat payV Ps))
    (hi : i < Ps.length) (hnc : cap = Ps.length) (hl : Ps.length < 65536) (hv : Blk w bv (oneV p x).toArray 143) :
    Calls Tryd.prog 64 #[.slice (some ⟨g, 0, none⟩) Ps.length cap, .int .i64 i, .slice (some ⟨bv, 0, none⟩) 1 1] w (InsVPost w (.slice (some ⟨g, 0, none⟩) Ps.length cap) Ps i p x) := by
  have hcells : ∀ j u, (flat payV Ps)[j]? = some u → w.cell? ⟨g, j, none⟩ = some u := fun j u hu => by
    have := h.cells (g := g) rfl j u hu
    rw [Addr.add_lit] at this
    simpa using this
  have hgw : g < w.heap.size := own_lt h rfl
  obtain ⟨xs, hxs⟩ : ∃ xs, xs = flat payV Ps := ⟨_, rfl⟩
  have hxl : xs.length = Ps.length * 3 := by rw [hxs]; exact flat_len wideV Ps
  have hE := insV_flat Ps i p x
  rw [← hxs] at hE hcells
  obtain ⟨n, hn⟩ : ∃ n, n = Ps.length := ⟨_, rfl⟩
  obtain ⟨vs, hvs⟩ : ∃ vs, vs = oneV p x := ⟨_, rfl⟩
  have hvl : vs.length = 3 := by rw [hvs]; rfl
  have hvo : ∀ v ∈ vs, v.oneCell' = true := by rw [hvs]; exact oneV_one p x
  have hxo : ∀ v ∈ xs.drop (i * 3), v.oneCell' = true := fun v hv => flat_one wideV Ps v (hxs ▸ List.mem_of_mem_drop hv)
  rw [← hn] at hi hnc hl hxl ⊢
  subst hnc
  have hpl : i * 3 ≤ xs.length := by rw [hxl]; omega
  obtain ⟨i0, hi0, hz0, hzs, hzb⟩ := info_parts infoV
  have hold : (Builtin.firstCells i0.size i (.slice (some ⟨g, 0, none⟩) i cap)).run Tryd.prog w.drew = .ok (xs.take (i * 3)).toArray w.drew := by
    rw [hzs]
    exact run_firstCells_some w.drew 3 i ⟨g, 0, none⟩ i cap (xs.take (i * 3)) (by rw [List.length_take]; omega) (fun j v hj => by
      rw [Addr.add_lit]
      rw [List.getElem?_take] at hj
      split at hj
      · have := hcells j v hj
        simpa using this
      · cases hj)
  obtain ⟨G, hG⟩ : ∃ G, G = grownCap w (cap + 1) cap 143 := ⟨_, rfl⟩
  have hGn : cap + 1 ≤ G := by rw [hG]; exact grownCap_ge w _ _ _
  have hGm : G ≤ maxLen := by rw [hG]; exact grownCap_le_maxLen w _ _ _ (by unfold maxLen; omega)
  have hG63 : G ≤ 9223372036854775807 := by unfold maxLen at hGm; omega
  obtain ⟨zs, hzs'⟩ : ∃ zs, zs = (Builtin.zeroCells (.agg #[.int .u32 0, .int .i64 0, .string ⟨#[]⟩] : Value).cells (cap + 1 - i)).toList ++ (Builtin.zeroCells (.agg #[.int .u32 0, .int .i64 0, .string ⟨#[]⟩] : Value).cells (G - (cap + 1))).toList := ⟨_, rfl⟩
  have hzl : zs.length = (cap + 1 - i) * 3 + (G - (cap + 1)) * 3 := by rw [hzs']; simp [Builtin.zeroCells, Value.cells]
  have hrz : ∀ ty, (Builtin.append_ #[66, 3] ty #[.slice (some ⟨g, 0, none⟩) i cap, .int .i64 ((cap : Int) + 1 - (i : Int))]).run Tryd.prog w = .ok (.slice (some ⟨w.heap.size, 0, none⟩) (cap + 1) G) (w.drew.alloc (.cells (xs.take (i * 3) ++ zs).toArray 143)) := fun ty => by
    have hq := Lib.run_append_grow_zeros w 66 3 ty 143 i0 _ .i64 .i64 Tryd.underlying66 Tryd.underlying3 hi0 hz0 (some ⟨g, 0, none⟩) i cap (xs.take (i * 3)) hold (cap + 1 - i) (by omega) (by rw [hzs]; omega) (by omega) (by omega) (by rw [hzb]; omega)
      (by rw [hzb, show i + (cap + 1 - i) = cap + 1 by omega]; exact growslice_fits (by omega) (by omega))
    rw [show i + (cap + 1 - i) = cap + 1 by omega, ← hG] at hq
    rw [show (cap : Int) + 1 - (i : Int) = ((cap + 1 - i : Nat) : Int) by omega, hq, hzs']
    have ha : (xs.take (i * 3)).toArray ++ Builtin.zeroCells (.agg #[.int .u32 0, .int .i64 0, .string ⟨#[]⟩] : Value).cells (cap + 1 - i) ++ Builtin.zeroCells (.agg #[.int .u32 0, .int .i64 0, .string ⟨#[]⟩] : Value).cells (G - (cap + 1)) = (xs.take (i * 3) ++ ((Builtin.zeroCells (.agg #[.int .u32 0, .int .i64 0, .string ⟨#[]⟩] : Value).cells (cap + 1 - i)).toList ++ (Builtin.zeroCells (.agg #[.int .u32 0, .int .i64 0, .string ⟨#[]⟩] : Value).cells (G - (cap + 1))).toList)).toArray := by
      apply Array.ext'
      simp [List.append_assoc]
    rw [ha]
  obtain ⟨W1, hW1⟩ : ∃ W1, W1 = w.drew.alloc (.cells (xs.take (i * 3) ++ zs).toArray 143) := ⟨_, rfl⟩
  rw [← hW1] at hrz
  obtain ⟨g', hg'⟩ : ∃ g', g' = w.heap.size := ⟨_, rfl⟩
  rw [← hg'] at hrz
  have hB1 : Blk W1 g' (xs.take (i * 3) ++ zs).toArray 143 := by rw [hW1, hg']; exact Blk.new w.drew _ _
  have hvB : Blk W1 bv vs.toArray 143 := by rw [hW1, hvs]; exact Blk.alloc (w := w.drew) hv _
  have hbv : bv ≠ g' := by have := hv.lt; omega
  have hgg : g ≠ g' := by omega
  have hmn : Nat.min 1 (cap + 1 - i) = 1 := by simp only [Nat.min_def]; split <;> omega
  have hmn2 : Nat.min (cap - i) (cap - i) = cap - i := by simp only [Nat.min_def]; split <;> omega
  have hcp1 : ∀ ty dc, (Builtin.copy_ #[66, 66] ty #[.slice (some ⟨g', i * 3, none⟩) (cap + 1 - i) dc, .slice (some ⟨bv, 0, none⟩) 1 1]).run Tryd.prog W1 = .ok (goInt ((1 : Nat) : Int)) (W1.setRow g' (new1 xs vs zs (i * 3)).toArray) := fun ty dc => by
    have hq := run_copy_k W1 66 66 ty 143 3 g' (i * 3) (cap + 1 - i) dc ⟨bv, 0, none⟩ 1 1 _ 143 vs Tryd.underlying66 sizeV hB1
      (by rw [hmn, hvl]) (fun j u hj => by rw [Addr.add_lit]; exact hvB.at (0 + j) (by simpa using hj)) (by rw [List.size_toArray, List.length_append, List.length_take, hzl, hvl]; omega) hvo
    rw [hmn] at hq
    simpa [new1] using hq
  obtain ⟨W2, hW2⟩ : ∃ W2, W2 = W1.setRow g' (new1 xs vs zs (i * 3)).toArray := ⟨_, rfl⟩
  rw [← hW2] at hcp1
  have hB2 : Blk W2 g' (new1 xs vs zs (i * 3)).toArray 143 := by rw [hW2]; exact setRow_heap W1 g' _ _ 143 _ hB1
  have hnl : (xs.drop (i * 3)).length + vs.length ≤ zs.length := by rw [List.length_drop, hzl, hvl, hxl]; omega
  have hcp2 : ∀ ty dc sc, (Builtin.copy_ #[66, 66] ty #[.slice (some ⟨g', i * 3 + 3, none⟩) (cap - i) dc, .slice (some ⟨g, i * 3, none⟩) (cap - i) sc]).run Tryd.prog W2.drew = .ok (goInt ((cap - i : Nat) : Int)) (W2.drew.setRow g' (new2 xs vs zs (i * 3)).toArray) := fun ty dc sc => by
    have hq := run_copy_k W2.drew 66 66 ty 143 3 g' (i * 3 + 3) (cap - i) dc ⟨g, i * 3, none⟩ (cap - i) sc _ 143 (xs.drop (i * 3)) Tryd.underlying66 sizeV hB2
      (by rw [List.length_drop, hxl, hmn2]; omega) (fun j u hj => by
        rw [Addr.add_lit]
        rw [List.getElem?_drop] at hj
        have e : W2.drew.cell? ⟨g, i * 3 + j, none⟩ = w.cell? ⟨g, i * 3 + j, none⟩ := by
          refine World.cell?_of_block ?_
          show W2.heap[g]? = w.heap[g]?
          rw [hW2, setRow_other W1 g' g _ hgg, hW1]
          exact heap_alloc_old w.drew _ hgw
        rw [e]
        exact hcells _ _ hj) (by rw [List.size_toArray, new1_len hpl hnl, List.length_drop, hzl, hxl]; omega) hxo
    rw [hmn2] at hq
    simpa [new2, hvl] using hq
  have HR := Lib.hid hrz
  have HC1 := Lib.hid hcp1
  have HC2 := Lib.hid hcp2
  have HALL := Lib.hid (And.intro hE (And.intro hn (And.intro hpl (And.intro hnl (And.intro hvl (And.intro hvs (And.intro hxl (And.intro hzl (And.intro hGm (And.intro hW1 (And.intro hW2 (And.intro hB2 hg'))))))))))))
  have hz2 : ¬ ((i : Int) = (cap : Int)) := by omega
  have hz3 : (cap : Int) < (cap : Int) + 1 := by omega
  have hb1 : (0 : Int) ≤ (i : Int) + 1 := by omega
  have hin : i ≤ cap := by omega
  have hGi : ¬ (G = i) := by omega
  have hGim : ¬ (G = i + 1) := by omega
  have hci : ¬ (cap = i) := by omega
  have mixed : Tryd.prog.follows Departure.mixedOrders = true := by kernel_rfl
  have hw1 : IntKind.i64.wrap ((i : Int) + 1) = (i : Int) + 1 := wr (by omega)
  have htn : ((i : Int) + 1).toNat = i + 1 := by omega
  have hb6 : (i : Int) + 1 ≤ (cap : Int) + 1 := by omega
  have hb3 : (i : Int) ≤ (cap : Int) + 1 := by omega
  clear hE hn hpl hnl hvl hvs hxl hzl hGm hW1 hW2 hB2 hB1 hvB hv hvo hxo h hcells hxs hrz hcp1 hcp2 hold hi0 hz0 hzs hzb hG hzs' hmn hmn2 hgw hbv hgg hg'
  go_enter Tryd.func64, Tryd.ntmps64
  go_wp2_with (first
    | (at_builtin; go_must (refine wpList_appR _ rfl _ _ 66 3 rfl (.slice (some ⟨g, 0, none⟩) i cap) (.int .i64 ((cap : Int) + 1 - (i : Int))) rfl rfl (HR.out _) ?_))
    | (refine wpList_copyR _ rfl _ _ 66 66 rfl (.slice (some ⟨g', i * 3, none⟩) (cap + 1 - i) (G - i)) (.slice (some ⟨bv, 0, none⟩) 1 1) rfl rfl (HC1.out 3 (G - i)) ?_))
  go_region_law_o (refine step_copyR rfl _ _ 66 66 rfl (.slice (some ⟨g', i * 3 + 3, none⟩) (cap - i) (G - (i + 1))) (.slice (some ⟨g, i * 3, none⟩) (cap - i) (cap - i)) (by simp [Act.eval, Act.put]) (by simp [Act.eval, Act.put]) (HC2.out 3 (G - (i + 1)) (cap - i)) ?_)
  go_wp2
  go_ret
  obtain ⟨hE, hn, hpl, hnl, hvl, hvs, hxl, hzl, hGm, hW1, hW2, hB2, hg'⟩ := HALL.out
  refine ⟨.slice (some ⟨g', 0, none⟩) (cap + 1) G, rfl, ⟨?_, .inr ⟨g', G, _, by rw [← hn], Nat.zero_le _, setRow_heap W2.drew g' _ _ 143 _ hB2, by omega, hGm, ?_, ?_⟩⟩, by simp [Value.ownBlock], .inr ⟨g', rfl, by omega⟩, ?_⟩
  · rw [flat_len wideV]
    simp; omega
  · rw [List.size_toArray, new2_len hpl hnl, hzl]
    omega
  · have := new2_take hpl hnl
    rw [hE, ← hvs, ← this, hxl, hvl, ← hn, show (cap + 1) * 3 = cap * 3 + 3 by omega]
  · rw [hW2, hW1]
    exact ((((((Fr.refl _ w).drew).alloc _).setRow g' _ (.inr (by omega))).drew).setRow g' _ (.inr (by omega)))
theorem insV_any (w : World) (v : Value) (Ps : List (Int × (Int × ByteArray))) (i : Nat) (p : Int) (x : Int × ByteArray) (bv : Nat) (h : w.ownsRow 0 143 3 v Ps.length (flat payV Ps)) (nn : v.ownBlock ≠ none) (hi : i ≤ Ps.length) (hl : Ps.length < 65536)
    (hv : Blk w bv (oneV p x).toArray 143) (hne : v.ownBlock ≠ some bv) :
    Calls Tryd.prog 64 #[v, .int .i64 i, .slice (some ⟨bv, 0, none⟩) 1 1] w (InsVPost w v Ps i p x) := by
  rcases Nat.lt_or_ge i Ps.length with hlt | hge
  · rcases h.2 with ⟨rfl, _⟩ | ⟨g, cap, cur, rfl, _, hg, hnc, hm, hcs, htake⟩
    · exact absurd rfl nn
    · rcases Nat.lt_or_ge Ps.length cap with hc | hc
      · exact insV_room w g cap cur Ps i p x bv hg hm hcs htake hlt hc hl hv (fun e => hne (by rw [e]; rfl))
      · exact insV_grow w g cap Ps i p x bv h hlt (by omega) hl hv
  · obtain rfl : i = Ps.length := by omega
    exact insV_end w v Ps p x bv h hl hv
end Go.Proofs.YtgoolkgjcmdilaaDoor
