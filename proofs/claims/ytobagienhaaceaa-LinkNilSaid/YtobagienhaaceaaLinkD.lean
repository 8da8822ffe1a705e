/-
  Twice and All of a line; what All tells.
-/
import Derived.Test.YtobagienhaaceaaLinkC
import Derived.Test.YtobagienhaaceaaRangeIn
import Derived.Shelf.Abstract
import Derived.Deep.RegionLaw
import Derived.Shelf.RegionOpen
import Derived.OwnWalkIn
import Derived.TacticsInMore
import Derived.LoopNIn
import Derived.LoopIn
import Derived.WalkMore
namespace Go.Proofs.Ytobagienhaaceaa
open Go.RowKit Go.Shelf
set_option linter.unusedVariables false
attribute [local go_sem] Oper.semAt_some

/-! ### append at a step of a region that draws its order -/
section
variable {P : Program}
theorem run_app_place (w : World) (t ty e : TypeId) (i : TypeInfo) (z : Value) (size bytes : Nat) (ht : P.underlying t = some (.slice e)) (hi : P.info? e = some i) (hz : i.zero = some z)
    (hsize : i.size = size) (hby : i.bytes = bytes)
    (v : Value) (n : Nat) (xs : List Value) (hown : w.ownsRow 0 e size v n xs)
    (a : Addr) (m c : Nat) (news : List Value) (hl : news.length = m * size) (hnews : ∀ j u, news[j]? = some u → w.cell? (a.add j) = some u) (h1 : ∀ u ∈ news, u.oneCell' = true)
    (h63 : n + m ≤ maxLen) (hbytes : (n + m) * bytes ≤ 140737488355328) (v' : Value) (w' : World) (hr : (Builtin.append_ #[t, t] ty #[v, .slice (some a) m c]).run P w = .ok v' w') :
    v'.ownBlock = v.ownBlock ∨ (v'.ownBlock = some w.heap.size ∧ ∀ k, k < w.heap.size → w'.heap[k]? = w.heap[k]?) := by
  subst hsize
  subst hby
  have hsmall : n + m ≤ 9223372036854775807 := by simp only [maxLen] at h63; omega
  rcases hown.2 with ⟨rfl, rfl⟩ | ⟨g, cap, cur, rfl, hbg, hg, hnc, hcm, hcs, htake⟩
  · by_cases hm : m = 0
    · subst hm
      simp [Builtin.append_, run_underlying ht, sizeOf, typeInfo, hi, Builtin.lenOf, Builtin.firstCells, loadCells, loadCellsFrom] at hr
      exact .inl (by rw [← hr.1])
    · have hr' := run_append_nil (P := P) w t ty e i z ht hi hz a m c news hl hnews (by omega) (by omega) (by have hb := hbytes; simp only [Nat.zero_add] at hb; omega)
      rw [hr] at hr'
      simp only [Result.ok.injEq] at hr'
      exact .inr ⟨by rw [hr'.1]; rfl, fun k hk => by rw [hr'.2]; exact Below.heap_alloc _ _ _ hk⟩
  · by_cases hroom : n + m ≤ cap
    · have hfit : n * i.size + news.length ≤ cur.size := by rw [hl, hcs, ← Nat.add_mul]; exact Nat.mul_le_mul_right _ hroom
      have hr' := run_append_room (P := P) w t ty e i ht hi g n cap cur hg a m c news hl hnews h1 hroom hfit
      rw [hr] at hr'
      simp only [Result.ok.injEq] at hr'
      exact .inl (by rw [hr'.1]; rfl)
    · have holds : ∀ j u, xs[j]? = some u → w.cell? ((⟨g, 0, none⟩ : Addr).add j) = some u := hown.cells (g := g) rfl
      have hr' := run_append_grow (P := P) w t ty e i z ht hi hz ⟨g, 0, none⟩ n cap xs hown.1 holds a m c news hl hnews (by omega) (by omega) (growslice_fits (by omega) hbytes)
      rw [hr] at hr'
      simp only [Result.ok.injEq] at hr'
      exact .inr ⟨by rw [hr'.1]; rfl, fun k hk => by rw [hr'.2]; exact Below.heap_alloc _ _ _ hk⟩


/-- What lay in the slice's own block lies there behind the append. -/
structure Appended2 (w : World) (e : TypeId) (size : Nat) (v : Value) (k : Nat) (xs news : List Value) (v' : Value) (w' : World) : Prop where
  app : Appended w e size v k (xs ++ news) v' w'
  kept : ∀ g j u, v.ownBlock = some g → xs[j]? = some u → w'.cell? ⟨g, j, none⟩ = some u
theorem step_app {w : World} {ops : Array Oper} {o : Oper} {a : Act} {K : Act → World → Prop} {Q : Exit → Act → World → Prop} {E : Prop} (hgd : o.guard = none) (s x : Operand) (t : TypeId)
    (hop : o.op = .call { callee := .builtin .append, args := #[s, x], argTypes := #[t, t] })
    (e : TypeId) (z : Value) (size bytes : Nat) (h1 : P.underlying t = some (.slice e)) (h2 : (P.info? e).map (fun i => (i.zero, i.size, i.bytes)) = some (some z, size, bytes)) (h6 : z.cells.size = size) (h7 : 0 < size)
    (v : Value) (k : Nat) (xs : List Value) (hs : a.eval s = v) (hown : w.ownsRow 0 e size v k xs) (ad : Addr) (m c : Nat) (news : List Value) (hx : a.eval x = .slice (some ad) m c) (hn : news.length = m * size)
    (hc : ∀ j u, news[j]? = some u → w.cell? (ad.add j) = some u) (h1c : ∀ u ∈ news, u.oneCell' = true) (b1 : k + m ≤ maxLen) (b2 : (k + m) * bytes ≤ 140737488355328)
    (hK : ∀ v' w', Appended2 w e size v (k + m) xs news v' w' → K (a.put o.dst v') w') :
    if Region.wanted o (yielded ops a.tmps) = true then Oper.wp P o a w K Q else E := by
  have hw : Region.wanted o (yielded ops a.tmps) = true := by simp [Region.wanted, hgd]
  rw [if_pos hw]
  obtain ⟨i, hi, hz, hsz, hby⟩ := info_parts h2
  obtain ⟨v', w', hrun, r1, r2, -⟩ := run_append_own (P := P) w 0 t o.type e i z size bytes h1 hi hz hsz hby h6 h7 v k xs hown ad m c news hn hc h1c b1 b2 (Nat.zero_le _)
  have r4 := run_app_place w t o.type e i z size bytes h1 hi hz hsz hby v k xs hown ad m c news hn hc h1c b1 b2 v' w' hrun
  have r5 : v'.ownBlock = v.ownBlock ∨ v'.ownBlock = some w.heap.size := r4.imp id (fun h => h.1)
  have r6 : ∀ g j u, v.ownBlock = some g → xs[j]? = some u → w'.cell? ⟨g, j, none⟩ = some u := by
    intro g j u hg hu
    have hold : w.cell? ⟨g, j, none⟩ = some u := by
      rcases hown.2 with ⟨rfl, _⟩ | ⟨g', cap, cur, rfl, _⟩
      · simp [Value.ownBlock] at hg
      · simp [Value.ownBlock] at hg
        subst hg
        have := hown.cells (g := g') rfl j u hu
        rw [Addr.add_lit] at this
        simpa using this
    rcases r4 with h | ⟨_, h⟩
    · rcases r1.2 with ⟨rfl, _⟩ | ⟨g', cap, cur, rfl, _⟩
      · rw [hg] at h; simp [Value.ownBlock] at h
      · have hgg : g' = g := by rw [hg] at h; simpa [Value.ownBlock] using h
        subst hgg
        have := r1.cells (g := g') rfl j u (by rw [List.getElem?_append_left (List.getElem?_eq_some_iff.1 hu).1]; exact hu)
        rw [Addr.add_lit] at this
        simpa using this
    · exact (World.cell?_of_block (w := w) (h g (own_lt hown hg))).trans hold
  unfold Oper.wp execOp
  simp only [hop, resolve, invoke, builtin, Sem.run_bind, Sem.run_pure, Result.andThen_ok, List.map_toArray, List.map_cons, List.map_nil, hs, hx, hrun]
  exact hK v' w' ⟨⟨r1, r2, r5⟩, r6⟩
end

set_option maxHeartbeats 1000000 in
theorem twice_ok (w : World) (b : Nat) (v : Value) (L : List Int) (most : Nat) (i : Int) (h : LineAt w b v L most) (hl : 0 < L.length) (hm : most ≤ 64) (hlm : L.length < most) :
    Calls Try.prog 15 #[.pointer (some ⟨b, 0, none⟩), .int .i64 i] w (PutPost w b v L most (L.getD (place i L.length) 0)) := by
  have HN := Lib.hid (named_any w b v L most i h hl (by omega))
  have HF := Lib.hid (full_any w b v L most h)
  rw [decide_eq_false (by omega)] at HF
  have hlt := place_lt i hl
  generalize place i L.length = k at *
  have hkL : (ints L)[k]? = some (.int .i64 (L.getD k 0)) := by simp [ints, List.getD_eq_getElem?_getD, hlt]
  obtain ⟨x, hx⟩ : ∃ x, L.getD k 0 = x := ⟨_, rfl⟩
  rw [hx] at hkL ⊢
  have HK := Lib.hid hkL
  have hml : (L.length : Int) < 64 := by omega
  have k1 : (0 : Int) ≤ (k : Int) := by omega
  have k2 : (k : Int) < (L.length : Int) := by omega
  clear h hl hlm hx hkL hlt
  go_enter Try.func15, Try.ntmps15
  go_wp2_with fail
  (with_reducible refine HN.out.mono ?_)
  rintro e w1 ⟨rfl, rfl⟩
  go_wp2_with fail
  (with_reducible refine HF.out.mono ?_)
  rintro e w2 ⟨rfl, fr2, h2⟩
  have FB2 := Lib.hid fr2
  have hown := h2.2
  have hn := h2.notin
  rcases h2.2.2 with ⟨_, h0⟩ | ⟨g, cap, cur, rfl, _, hg, hnc, hcm, hcs, htk⟩
  · omega
  have cx : w2.cell? ⟨g, k, none⟩ = some (.int .i64 x) := by
    have := h2.2.cells (g := g) rfl k _ HK.out
    rw [Addr.add_lit] at this
    simpa using this
  have hN : ∀ v1 w3, Appended (w2.alloc (.cells #[.int .i64 x] 3)).drew 3 1 (.slice (some ⟨g, 0, none⟩) L.length cap) (L.length + 1) (ints L ++ [.int .i64 x]) v1 w3 →
      (w3.cell? ⟨b, 0, none⟩ = some (.slice (some ⟨g, 0, none⟩) L.length cap) ∧ w3.frozen? ⟨b, 0, none⟩ = false ∧ ∃ z, (w3.setCell ⟨b, 0, none⟩ v1).cell? ⟨b, 5, none⟩ = some (.int .i64 z) ∧ (w3.setCell ⟨b, 0, none⟩ v1).frozen? ⟨b, 5, none⟩ = false) ∧
      ∀ z, PutPost w b (.slice (some ⟨g, 0, none⟩) L.length cap) L most x (.returned (.bool true)) ((w3.setCell ⟨b, 0, none⟩ v1).setCell ⟨b, 5, none⟩ (.int .i64 z)) := by
    intro v1 w3 hp
    obtain ⟨⟨p, c, d, e, k1⟩, k2⟩ := h2
    have F := hp.fr
    have kb := F.blk (k1.alloc _).drew hn
    have hn1 : b ∉ v1.ownBlock.toList := own_notin hp.own kb (by decide)
    have kc := kb.set 0 v1
    have hla : LineAt (w3.setCell ⟨b, 0, none⟩ v1) b v1 (L ++ [x]) most := by
      refine ⟨⟨p, c, d, e, kc⟩, ?_⟩
      have := own_fr hp.own ((Fr.refl [b] w3).setCell ⟨b, 0, none⟩ v1 (.inl (by simp))) (fun g hg hm => hn1 (by simp at hm; subst hm; simp [hg]))
      simpa [ints] using this
    refine ⟨⟨kb.at 0 rfl, kb.free 0, e, kc.at 5 rfl, kc.free 5⟩, fun z => ⟨rfl, v1, hla.book 5 (by omega) z, ?_, ?_⟩⟩
    · rcases hp.place with h | h
      · exact .inl h
      · exact .inr ⟨_, h, by have := FB2.out.size; simp; omega⟩
    · have := (((FB2.out.mono (T := b :: (Value.slice (some ⟨g, 0, none⟩) L.length cap).ownBlock.toList) (by simp)).alloc (.cells #[.int .i64 x] 3)).drew.trans F (fun k hk => .inl (by simp [hk])))
      exact (this.setCell _ _ (.inl (by simp))).setCell _ _ (.inl (by simp))
  have HNN := Lib.hid hN
  obtain ⟨p2, c2', d2, e2, g0, g1, g2, g3, g4, g5, gf⟩ := h2.books
  have hblt := h2.lt
  clear hN hn fr2 h2 g1 g2 g3 g4 g5 gf hg hcs htk
  go_wp2_with fail
  have HO := Lib.hid hown
  have n1 : b ≠ w2.heap.size := Nat.ne_of_lt hblt
  have n2 : g ≠ w2.heap.size := Nat.ne_of_lt (World.block_lt_of_cell? w2 _ cx)
  clear hown
  go_region_law
    ((refine step_app (by rfl) _ _ 28 (by rfl) 3 (.int .i64 0) 1 8 Try.underlying28 info3 rfl (by decide) _ L.length (ints L) (by rfl) (by exact (World.ownsRow.alloc HO.out _)) ⟨w2.heap.size, 0, none⟩ 1 1 [.int .i64 x] (by rfl) rfl (by exact new_one w2 _ _ _ rfl) (by simp [Value.oneCell']) (by unfold maxLen; omega) (by omega) ?_; intro v1 w3 happ2; have happ := happ2.app; obtain ⟨g1, cp1, rfl⟩ := own_succ happ.own; obtain ⟨⟨e1, e2, z, e3, e4⟩, e5⟩ := HNN.out _ _ happ; have E5 := Lib.hid e5; clear e5 happ happ2))
  all_goals
    simp only [Exit.then]
    go_wp2
    go_ret
    exact E5.out _

theorem twice_no (w : World) (b : Nat) (v : Value) (most : Nat) (i : Int) (h : LineAt w b v [] most) :
    Calls Try.prog 15 #[.pointer (some ⟨b, 0, none⟩), .int .i64 i] w fun e w' => e = .returned (.bool false) ∧ Fr [] w w' := by
  have HL := Lib.hid (named_no w b v most i h)
  clear h
  go_enter Try.func15, Try.ntmps15
  go_wp2_with (go_at_call 26; refine HL.out.mono ?_; rintro e w1 ⟨rfl, rfl⟩)
  go_ret
  exact ⟨rfl, Fr.refl _ _⟩
theorem twice_full (w : World) (b : Nat) (v : Value) (L : List Int) (most : Nat) (i : Int) (h : LineAt w b v L most) (hl : 0 < L.length) (h64 : L.length ≤ 64) (hlm : most ≤ L.length) :
    Calls Try.prog 15 #[.pointer (some ⟨b, 0, none⟩), .int .i64 i] w fun e w' => e = .returned (.bool false) ∧ Fr [] w w' := by
  have HN := Lib.hid (named_any w b v L most i h hl h64)
  have HF := Lib.hid (full_any w b v L most h)
  rw [decide_eq_true hlm] at HF
  generalize place i L.length = k at *
  clear h hl h64 hlm
  go_enter Try.func15, Try.ntmps15
  go_wp2_with fail
  (with_reducible refine HN.out.mono ?_)
  rintro e w1 ⟨rfl, rfl⟩
  go_wp2_with fail
  (with_reducible refine HF.out.mono ?_)
  rintro e w2 ⟨rfl, fr2, h2⟩
  have FB2 := Lib.hid fr2
  clear fr2 h2
  go_wp2
  go_ret
  exact ⟨rfl, FB2.out⟩

/-- What All took: a row of its own, in a box. -/
def AllHeld (k : Nat) (vr : Value) (L : List Int) (W : World) : Prop := Blk W k #[vr] 28 ∧ W.ownsRow 0 3 1 vr L.length (ints L)
theorem AllHeld.fr {S : List Nat} {k : Nat} {vr : Value} {L : List Int} {W W' : World} (h : AllHeld k vr L W) (f : Fr S W W') (hk : k ∉ S) (hv : ∀ g, vr.ownBlock = some g → g ∉ S) : AllHeld k vr L W' :=
  ⟨f.blk h.1 hk, own_fr h.2 f hv⟩
def AllPost (w : World) (L : List Int) (e : Ending) (w' : World) : Prop :=
  ∃ k vr, e = .returned (.func (.func 27) #[] #[.pointer (some ⟨k, 0, none⟩)]) ∧ AllHeld k vr L w' ∧ w.heap.size ≤ k ∧ (∀ g, vr.ownBlock = some g → w.heap.size ≤ g) ∧ Fr [] w w'
theorem all_any (w : World) (b : Nat) (v : Value) (L : List Int) (most : Nat) (h : LineAt w b v L most) (hl : 0 < L.length) (h64 : L.length ≤ 64) :
    Calls Try.prog 16 #[.pointer (some ⟨b, 0, none⟩)] w (AllPost w L) := by
  have hblt := h.lt
  have n1 : b ≠ w.heap.size := Nat.ne_of_lt hblt
  obtain ⟨p, c, d, e, c0, _⟩ := h.books
  have hown := h.2
  rcases h.2.2 with ⟨_, h0⟩ | ⟨g, cap, cur, rfl, _, hg, hnc, hcm, hcs, htk⟩
  · omega
  have hsrc : ∀ j u, (ints L)[j]? = some u → (w.alloc (.cells #[.slice none 0 0] 28)).drew.cell? ((⟨g, 0, none⟩ : Addr).add j) = some u := by
    intro j u hu
    have := hown.cells (g := g) rfl j u hu
    have hb : Fr [] w (w.alloc (.cells #[.slice none 0 0] 28)).drew := ((Fr.refl _ _).alloc _).drew
    rw [Addr.add_lit] at this ⊢
    exact (hb.cell (World.block_lt_of_cell? w _ this) (by simp)).trans this
  have hN : ∀ v1 w3, Appended (w.alloc (.cells #[.slice none 0 0] 28)).drew 3 1 (.slice none 0 0) (0 + L.length) ([] ++ ints L) v1 w3 →
      (w3.cell? ⟨w.heap.size, 0, none⟩ = some (.slice none 0 0) ∧ w3.frozen? ⟨w.heap.size, 0, none⟩ = false) ∧
      AllPost w L (.returned (.func (.func 27) #[] #[.pointer (some ⟨w.heap.size, 0, none⟩)])) (w3.setCell ⟨w.heap.size, 0, none⟩ v1) := by
    intro v1 w3 hp
    have F := hp.fr
    have kb := F.blk (Blk.new w #[.slice none 0 0] 28).drew (by simp [Value.ownBlock])
    have hn1 : w.heap.size ∉ v1.ownBlock.toList := own_notin hp.own kb (by decide)
    refine ⟨⟨kb.at 0 rfl, kb.free 0⟩, w.heap.size, v1, rfl, ⟨kb.set 0 v1, ?_⟩, Nat.le_refl _, ?_, ?_⟩
    · have := own_fr hp.own ((Fr.refl [w.heap.size] w3).setCell ⟨w.heap.size, 0, none⟩ v1 (.inl (by simp))) (fun g hg hm => hn1 (by simp at hm; subst hm; simp [hg]))
      simpa using this
    · intro g hg
      rcases hp.place with h | h
      · rw [h] at hg; simp [Value.ownBlock] at hg
      · rw [h] at hg; cases hg; simp
    · have : Fr [] w w3 := ((((Fr.refl [] w).alloc (.cells #[.slice none 0 0] 28)).drew).trans F (by simp [Value.ownBlock]))
      exact this.setCell _ _ (.inr (Nat.le_refl _))
  have HN := Lib.hid hN
  have HS := Lib.hid hsrc
  clear hN hsrc h hg hcs htk
  go_enter Try.func16, Try.ntmps16
  go_wp2_with fail
  refine region_tail 5 (by kernel_rfl) (by kernel_rfl) ?_
  simp only [List.take_succ_cons, List.take_zero, List.drop_succ_cons, List.drop_zero]
  iterate 5 still_step
  refine wpStill_nil ?_
  go_wp2_with (at_builtin; go_must (refine wpList_app _ rfl _ _ 28 rfl 3 (.int .i64 0) 1 8 Try.underlying28 info3 rfl (by decide) _ 0 [] rfl (World.ownsRow_nil _ _ _ _) ⟨g, 0, none⟩ L.length cap (ints L) rfl (by rw [ints_len]; omega) HS.out (ints_one L) (by unfold maxLen; omega) (by omega) ?_); intro v1 w3 happ; have happ2 : Appended _ 3 1 _ (L.length - 1 + 1) _ v1 w3 := (by rw [show L.length - 1 + 1 = 0 + L.length by omega]; exact happ); obtain ⟨g1, cp1, rfl⟩ := own_succ happ2.own; obtain ⟨⟨e1, e2⟩, e5⟩ := HN.out _ _ happ; have E5 := Lib.hid e5; clear e5 happ happ2)
  go_ret
  exact E5.out

end Go.Proofs.Ytobagienhaaceaa
