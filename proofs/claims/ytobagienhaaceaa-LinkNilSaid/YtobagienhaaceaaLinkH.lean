/-
  wild: another one like it behind all.
-/
import Derived.Test.YtobagienhaaceaaLinkG
namespace Go.Proofs.Ytobagienhaaceaa
open Go.RowKit Go.Shelf
set_option linter.unusedVariables false
attribute [local go_sem] Oper.semAt_some

theorem wild_twice0 (w : World) (b : Nat) (v vt : Value) (ts : List Int) (most N : Nat) (n : Int) (h : LineAt w b v [] most) (ht : w.ownsRow 0 3 1 vt ts.length (ints ts)) (hM : May [] ts N) (hn : 0 ≤ n ∧ n ≤ 255) (hr : n / 2 % 4 = 2) :
    Calls Try.prog 9 #[.pointer (some ⟨b, 0, none⟩), vt, .int .i64 n] w (WildPost w b v vt most ts.length N) := by
  have HT := Lib.hid (twice_no w b v most n h)
  have HLn := Lib.hid (len_zero w b v most h)
  have HL := Lib.hid h
  have HE := Lib.hid (fun w' f => same_wild (w' := w') h (by simp) ht hM f)
  obtain ⟨n1, n2⟩ := hn
  clear h ht hM
  go_enter Try.func9, Try.ntmps9
  go_wp2_with fail
  (with_reducible refine HLn.out.mono ?_)
  rintro e w1 ⟨rfl, rfl⟩
  go_wp2_with fail
  (with_reducible refine HT.out.mono ?_)
  rintro e w1 ⟨rfl, f1⟩
  have HLn2 := Lib.hid (len_zero w1 b v most (HL.out.fr f1 (by simp) (by simp)))
  have HF := Lib.hid f1
  clear f1
  go_wp2_with fail
  (with_reducible refine HLn2.out.mono ?_)
  rintro e w2 ⟨rfl, rfl⟩
  go_wp2
  go_ret
  exact HE.out _ HF.out

theorem wild_full (w : World) (b : Nat) (v vt : Value) (L ts : List Int) (most N : Nat) (n : Int) (h : LineAt w b v L most) (hl : 0 < L.length) (hm : L.length = most) (h64 : most ≤ 64) (ht : w.ownsRow 0 3 1 vt ts.length (ints ts)) (hM : May L ts N) (hn : 0 ≤ n ∧ n ≤ 255) (hr : n / 2 % 4 = 2) :
    Calls Try.prog 9 #[.pointer (some ⟨b, 0, none⟩), vt, .int .i64 n] w (WildPost w b v vt most ts.length N) := by
  have HT := Lib.hid (twice_full w b v L most n h hl (by omega) (by omega))
  have HLn := Lib.hid (len_any w b v L most h)
  have HL := Lib.hid h
  have HE := Lib.hid (fun w' f => same_wild (w' := w') h (by omega) ht hM f)
  have hq : ((L.length : Int) == (L.length : Int)) = true := by simp
  obtain ⟨n1, n2⟩ := hn
  clear h ht hM hm hl
  go_enter Try.func9, Try.ntmps9
  go_wp2_with fail
  (with_reducible refine HLn.out.mono ?_)
  rintro e w1 ⟨rfl, rfl⟩
  go_wp2_with fail
  (with_reducible refine HT.out.mono ?_)
  rintro e w1 ⟨rfl, f1⟩
  have HLn2 := Lib.hid (len_any w1 b v L most (HL.out.fr f1 (by simp) (by simp)))
  have HF := Lib.hid f1
  clear f1
  go_wp2_with fail
  (with_reducible refine HLn2.out.mono ?_)
  rintro e w2 ⟨rfl, rfl⟩
  go_wp2
  go_ret
  exact HE.out _ HF.out

/-- The last one that was told. -/
def lastOf (l : List Int) : Int := l.getLast?.getD (-1)
theorem lastOf_snoc (l : List Int) (x : Int) : lastOf (l ++ [x]) = x := by simp [lastOf]
theorem eql46 (f : Fn) (x l : Array Value) (w : World) : (binOp .eql 46 (.func f x l) .nilFunc).run Try.prog w = .ok (.bool false) w := by kernel_rfl

theorem LineAt.putObj {W : World} {b : Nat} {v : Value} {L : List Int} {most : Nat} (h : LineAt W b v L most) {D : Nat} {o : Obj} (hl : W.heap[D]? = some o) (ho : o.isCells = false) (o' : Obj) : LineAt (W.putObj D o') b v L most := by
  obtain ⟨⟨p, c, d, e, h1⟩, h2⟩ := h
  exact ⟨⟨p, c, d, e, h1.putObj hl ho o'⟩, own_putObj h2 hl ho o'⟩
theorem WildPost.putObj {w W : World} {b : Nat} {v vt : Value} {most T N : Nat} {e : Ending} (h : WildPost w b v vt most T N e W) {D : Nat} {o : Obj} (hl : W.heap[D]? = some o) (ho : o.isCells = false) (o' : Obj) (hD : w.heap.size ≤ D) : WildPost w b v vt most T N e (W.putObj D o') := by
  obtain ⟨h1, v', L', ts', h2, h3, h4, h5, h6, h7, h8⟩ := h
  exact ⟨h1, v', L', ts', h2.putObj hl ho o', h3, own_putObj h4 hl ho o', h5, h6, h7, h8.putObj _ _ hD⟩

/-- Between two rounds. -/
structure TI (w3 : World) (bl : Nat) (pre : List Int) (W : World) : Prop where
  l : Blk W bl #[.int .i64 (lastOf pre)] 3
  fr : Fr [bl] w3 W
theorem ti_ab (w3 : World) (bl B : Nat) (hB : w3.heap.size ≤ B) : Ab B [] (TI w3 bl) :=
  fun s A A' row h hg hr => ⟨blk_ab hg hr h.l (by simp), fr_ab hg hr hB h.fr (by simp)⟩

set_option maxRecDepth 100000 in
set_option maxHeartbeats 2000000 in
theorem wild_twice (w : World) (b : Nat) (v vt : Value) (L ts : List Int) (most N : Nat) (n : Int) (h : LineAt w b v L most) (hl : 0 < L.length) (hm : L.length < most) (h64 : most ≤ 64) (ht : w.ownsRow 0 3 1 vt ts.length (ints ts)) (hT : ts.length ≤ 1048576)
    (hM : May L ts N) (hN : N ≤ 1048576) (ha : Apart w b v vt) (hn : 0 ≤ n ∧ n ≤ 255) (hr : n / 2 % 4 = 2) :
    Calls Try.prog 9 #[.pointer (some ⟨b, 0, none⟩), vt, .int .i64 n] w (WildPost w b v vt most ts.length N) := by
  have hq := eql46
  have HT := Lib.hid (twice_ok w b v L most n h hl h64 hm)
  have HLn := Lib.hid (len_any w b v L most h)
  have hk := place_lt n hl
  generalize place n L.length = k at *
  obtain ⟨j, hj, hjt, hj1⟩ := hM.at hk
  have hjl := hM.le j hjt
  have hx : L.getD k 0 = (j : Int) := by rw [← hj]; simp [List.getD_eq_getElem?_getD, hk]
  rw [hx] at HT
  rcases ht.2 with ⟨rfl, h0⟩ | ⟨g, cap, cur, rfl, _, hg, hnc, hcm, hcs, htk⟩
  · omega
  obtain ⟨y, hy⟩ : ∃ y, ts.getD j 0 = y := ⟨_, rfl⟩
  rw [hy] at hj1 hjl
  have HM := Lib.hid (hM.twice hk hj hjt)
  rw [hy] at HM
  have HO := Lib.hid ht
  have HA := Lib.hid ha
  have HL := Lib.hid (And.intro hk hm)
  have HBL := Lib.hid h
  obtain ⟨n1, n2⟩ := hn
  have y2 : y ≤ 1048576 := by omega
  have j0 : (0 : Int) ≤ (j : Int) := by omega
  have j1 : (j : Int) < (ts.length : Int) := by omega
  have t1 : (ts.length : Int) ≤ 1048576 := by omega
  have HGT := Lib.hid (show g < w.heap.size from own_lt ht rfl)
  have HL1 : (L ++ [(j : Int)]).length ≤ 64 := by simp; omega
  have hY0 := Lib.hid hy
  clear hx hM ht ha h hm hl hj hy hk hg htk hcs
  refine (callsIn_wide (n := 9)).1 ?_
  refine callsIn_of_wp_marks Try.func9 rfl trivial ?_ rfl
  simp only [Try.ntmps9, List.size_toArray, List.length_cons, List.length_nil, Nat.reduceAdd, Nat.reduceSub, Array.replicate_succ, Array.replicate_zero, List.push_toArray, List.append_toArray, List.nil_append, List.cons_append]
  gi_wp2_with (refine ⟨trivial, ?_⟩; gi_at_call 11; refine (callsIn_wide.2 HLn.out).mono ?_; rintro e w1 ⟨rfl, rfl⟩)
  refine ⟨trivial, ?_⟩
  refine (callsIn_wide.2 HT.out).mono ?_
  rintro e w1 ⟨rfl, v1, hl1, hmv, hf1⟩
  gi_wp2_with fail
  generalize hw2 : World.alloc w1 _ = w2
  obtain ⟨bl, hbl⟩ : ∃ z, z = w1.heap.size := ⟨_, rfl⟩
  rw [← hbl]
  have hB2 : Blk w2 bl #[.int .i64 (-1)] 3 := by rw [← hw2, hbl]; exact Blk.new _ _ _
  have f2 : Fr [] w1 w2 := by rw [← hw2]; exact (Fr.refl _ _).alloc _
  have hs2 : w2.heap.size = bl + 1 := by rw [← hw2, hbl]; simp
  have hl2 := hl1.fr f2 (by simp) (by simp)
  have HAll := Lib.hid (all_any w2 b v1 _ most hl2 (by simp) HL1)
  have H2 := Lib.hid (And.intro hB2 (And.intro f2 (And.intro hs2 (And.intro hl1 (And.intro hmv (And.intro hf1 hbl))))))
  clear hw2 hbl hB2 f2 hs2 hl2 hl1 hmv hf1
  refine ⟨trivial, ?_⟩
  refine (callsIn_wide.2 HAll.out).mono ?_
  rintro e w3 ⟨kk, vr, rfl, hA, hk1, hk2, f3⟩
  have H3 := Lib.hid (And.intro hA (And.intro hk1 (And.intro hk2 f3)))
  clear hA hk1 hk2 f3
  gi_wp2_with fail
  have hblt := H2.out.1.lt
  have hbl3 : bl < w3.heap.size := Nat.lt_of_lt_of_le hblt H3.out.2.2.2.size
  refine wpIn_range_tm (w := w3) (ps := #[66]) (encs := intArg) rfl (by decide) (gf := 27) (lb := #[.pointer (some ⟨kk, 0, none⟩)]) rfl trivial (enters_of Try.func27 (by kernel_rfl) rfl)
    (all_tells _ kk (w3.heap.size + 2) vr (L ++ [(j : Int)]) (by omega)) Kpb.trans (fun W l o o' hl h1 h2 => Kpb.put o' ?hkb (by omega)) (fun W hf _ => H3.out.1.fr hf (by simp) (by simp)) (fun W l o o' hl h1 h2 h3 => h3.kpb (Kpb.put o' (B := l + 1) ?hkb2 (by omega))) (by simp) (fun _ => rfl)
    (TI w3 bl) (fun _ _ _ => False) (ti_ab w3 bl _ (Nat.le_refl _)) (fun c s A A' row h hg hr => h)
    ⟨H3.out.2.2.2.blk H2.out.1 (by simp), Fr.refl _ _⟩
    (fun tm x a' W => a' = { tmps := (tm.setIfInBounds 66 (.int .i64 x)).setIfInBounds 12 (.int .i64 x), defers := [] }) ?hAx ?hassign ?hbody ?hdone ?hstop
  case hkb =>
    subst hl
    intro hm
    have := H3.out.1.1.lt
    rcases List.mem_cons.1 hm with hm | hm
    · omega
    · have := own_lt H3.out.1.2 (by simpa using hm); omega
  case hkb2 =>
    subst hl
    intro hm
    have := H3.out.1.1.lt
    rcases List.mem_cons.1 hm with hm | hm
    · omega
    · have := own_lt H3.out.1.2 (by simpa using hm); omega
  case hAx => exact fun x a' s A A' row h hg hr => h
  case hassign =>
    intro l pre x W K hI hK
    have HK := Lib.hid hK
    clear hK
    simp only [intArg, List.zip_toArray, Array.foldl]
    gi_wp2
    refine HK.out _ _ (KeepsFrom.refl _ _) ⟨fun _ _ => rfl, KeepsFrom.refl _ _⟩ hI ?_
    rfl
  case hbody =>
    rintro l pre x a' W hl - hI rfl hN
    have cl := hI.l.at 0 (v := .int .i64 (lastOf pre)) rfl
    have fl := hI.l.free 0
    have F : Fr [bl] W (W.setCell ⟨bl, 0, none⟩ (.int .i64 x)) := (Fr.refl _ _).setCell _ _ (.inl (by simp))
    have h1 : KeepsFrom w3.heap.size W (W.setCell ⟨bl, 0, none⟩ (.int .i64 x)) := kf_of_fr _ F (by intro k hk; simp at hk; subst hk; exact ⟨_, _, hI.l⟩)
    have hS : ∀ k, k ∈ kk :: vr.ownBlock.toList → k < W.heap.size ∧ k ∉ [bl] := by
      intro k hk
      have hs := hI.fr.size
      have := H2.out.2.2.1
      rcases List.mem_cons.1 hk with hk | hk
      · subst hk
        have := H3.out.1.1.lt
        have := H3.out.2.1
        exact ⟨by omega, by simp; omega⟩
      · have h5 : vr.ownBlock = some k := by simpa using hk
        have := own_lt H3.out.1.2 h5
        have := H3.out.2.2.1 k h5
        exact ⟨by omega, by simp; omega⟩
    have h2 : Kpb (kk :: vr.ownBlock.toList) (w3.heap.size + 2) W (W.setCell ⟨bl, 0, none⟩ (.int .i64 x)) := Kpb.of_fr _ F hS (by intro k hk; simp at hk; subst hk; exact ⟨_, _, hI.l⟩)
    have h3 : TI w3 bl (pre ++ [x]) (W.setCell ⟨bl, 0, none⟩ (.int .i64 x)) := ⟨by rw [lastOf_snoc]; exact hI.l.set 0 _, hI.fr.trans F (by simp)⟩
    have HH := Lib.hid (And.intro h1 (And.intro h2 h3))
    clear F h1 h2 h3 hS hI
    gi_wp2
    exact HH.out
  case hdone =>
    rintro D xs W hD rfl hI hen hK
    have cl := hI.l.at 0 (v := .int .i64 (lastOf (L ++ [(j : Int)]))) rfl
    rw [lastOf_snoc] at cl
    have hgS : g ∉ b :: v.ownBlock.toList := by
      intro hm
      rcases List.mem_cons.1 hm with hm | hm
      · subst hm; exact HA.out.bt (by simp [Value.ownBlock])
      · exact HA.out.vt g (by simpa using hm) (by simp [Value.ownBlock])
    obtain ⟨hB2, f2, hs2, hl1, hmv, hf1, hbl⟩ := H2.out
    have hg0 := HGT.out
    have hs1 := hf1.size
    have hgb : g ∉ [bl] := by simp; omega
    have ht1 := own_fr HO.out hf1 (fun g' hg' => by cases hg'; exact hgS)
    have ht2 := own_fr ht1 (f2.trans H3.out.2.2.2 (by simp)) (by simp)
    have ht3 := own_fr ht2 hI.fr (fun g' hg' => by cases hg'; exact hgb)
    have hcl := own_cell ht3 hjt
    have hY : ts.getD j 0 = y := hY0.out
    rw [hY] at hcl
    obtain ⟨cy, fy⟩ := hcl
    have hl3 := (hl1.fr (f2.trans H3.out.2.2.2 (by simp)) (by simp) (by simp)).fr hI.fr (by have := hl1.lt; simp; omega) (fun g' hg' hm => by
      simp at hm; subst hm
      rcases hmv with h | ⟨g2, h, hg2⟩
      · rw [h] at hg'
        have := own_lt HBL.out.2 hg'; omega
      · rw [h] at hg'; cases hg'; have := own_lt hl1.2 h; omega)
    have hw : WildPost w b v (.slice (some ⟨g, 0, none⟩) ts.length cap) most ts.length N (.returned (.bool true)) (W.setCell ⟨g, j, none⟩ (.int .i64 (y + 1))) := by
      refine ⟨rfl, v1, _, _, ?_, ?_, own_set ht3 hjt (y + 1), by rw [List.length_set], HM.out, hmv, ?_⟩
      · refine hl3.fr ((Fr.refl [g] W).setCell ⟨g, j, none⟩ _ (.inl (by simp))) ?_ ?_
        · intro hm; simp at hm; subst hm; exact HA.out.bt (by simp [Value.ownBlock])
        · intro g' hg' hm; simp at hm; subst hm
          rcases hmv with h | ⟨g2, h, hg2⟩
          · rw [h] at hg'; exact HA.out.vt g' hg' (by simp [Value.ownBlock])
          · rw [h] at hg'; cases hg'; omega
      · have := HL.out.2; simp; omega
      · have h1 : Fr (b :: (v.ownBlock.toList ++ (Value.slice (some ⟨g, 0, none⟩) ts.length cap).ownBlock.toList)) w w1 := hf1.mono (fun x hx => .inl (by rcases List.mem_cons.1 hx with h | h; exact (by simp [h]); exact List.mem_cons_of_mem _ (List.mem_append_left _ h)))
        have h2 := (h1.trans (f2.trans H3.out.2.2.2 (by simp)) (by simp)).trans hI.fr (by intro x hx; simp at hx; omega)
        exact h2.setCell _ _ (.inl (by simp [Value.ownBlock]))
    have hK2 : (W.setCell ⟨g, j, none⟩ (.int .i64 (y + 1))).heap[D]? = some (.deferred (some [])) := (Below.heap_setCell W ⟨g, j, none⟩ _ D (by have := H3.out.2.2.2.size; show D ≠ g; omega)).trans hK
    have HW := Lib.hid (And.intro hw (And.intro hK2 (show w.heap.size ≤ D by have := H3.out.2.2.2.size; omega)))
    clear hI hen hK hgS hB2 f2 hs2 hl1 hmv hf1 hbl hg0 hs1 hgb ht1 ht2 ht3 hY hl3 hw hK2 hblt hbl3 hD
    gi_wp2
    refine ⟨by simp, .inl ⟨_, _, rfl, run_takeDeferred HW.out.2.1, ?_⟩⟩
    refine ⟨_, results_tmp rfl _ _ _, ?_⟩
    exact HW.out.1.putObj HW.out.2.1 rfl _ HW.out.2.2
  case hstop => exact fun D c pre W _ _ h => h.elim

end Go.Proofs.Ytobagienhaaceaa
