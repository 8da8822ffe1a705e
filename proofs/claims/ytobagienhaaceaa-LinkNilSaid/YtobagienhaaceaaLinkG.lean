/-
  wild: its walk.
-/
import Derived.Test.YtobagienhaaceaaLinkF
namespace Go.Proofs.Ytobagienhaaceaa
open Go.RowKit Go.Shelf
set_option linter.unusedVariables false
attribute [local go_sem] Oper.semAt_some

theorem own_set {w : World} {g n cap j : Nat} {ts : List Int} (h : w.ownsRow 0 3 1 (.slice (some ⟨g, 0, none⟩) n cap) n (ints ts)) (hj : j < n) (y : Int) :
    (w.setCell ⟨g, j, none⟩ (.int .i64 y)).ownsRow 0 3 1 (.slice (some ⟨g, 0, none⟩) n cap) n (ints (ts.set j y)) := by
  obtain ⟨h1, h2⟩ := h
  rcases h2 with ⟨h2, _⟩ | ⟨g', cap', cur, h2, hb, hg, h3, h4, h5, h6⟩
  · cases h2
  · cases h2
    refine ⟨by rw [ints_len, List.length_set]; rw [ints_len] at h1; exact h1, .inr ⟨g, cap, _, rfl, hb, Blk.set (w := w) (show Blk w g cur 3 from hg) j _, h3, h4, by simpa using h5, ?_⟩⟩
    rw [Array.toList_setIfInBounds, List.take_set, h6]
    simp [ints, List.map_set]
theorem own_cell {w : World} {g n cap j : Nat} {ts : List Int} (h : w.ownsRow 0 3 1 (.slice (some ⟨g, 0, none⟩) n cap) n (ints ts)) (hj : j < ts.length) : w.cell? ⟨g, j, none⟩ = some (.int .i64 (ts.getD j 0)) ∧ w.frozen? ⟨g, j, none⟩ = false := by
  have h1 := h.cells (g := g) rfl j (.int .i64 (ts.getD j 0)) (by simp [ints, List.getD_eq_getElem?_getD, hj])
  rw [Addr.add_lit] at h1
  refine ⟨by simpa using h1, ?_⟩
  rcases h.2 with ⟨h2, _⟩ | ⟨g', cap', cur, h2, hb, hg, _⟩
  · cases h2
  · cases h2
    exact Blk.free (w := w) (show Blk w g cur 3 from hg) j

def WildPost (w : World) (b : Nat) (v vt : Value) (most T N : Nat) (e : Ending) (w' : World) : Prop :=
  e = .returned (.bool true) ∧ ∃ v' L' ts', LineAt w' b v' L' most ∧ L'.length ≤ most ∧ w'.ownsRow 0 3 1 vt T (ints ts') ∧ ts'.length = T ∧ May L' ts' (N + 1) ∧ Moved w v v' ∧ Fr (b :: (v.ownBlock.toList ++ vt.ownBlock.toList)) w w'

/-- What is apart. -/
structure Apart (w : World) (b : Nat) (v vt : Value) : Prop where
  bt : b ∉ vt.ownBlock.toList
  vt : ∀ g, v.ownBlock = some g → g ∉ vt.ownBlock.toList

set_option maxHeartbeats 1000000 in
theorem wild_take (w : World) (b : Nat) (v vt : Value) (L ts : List Int) (most N : Nat) (n : Int) (h : LineAt w b v L most) (hl : 0 < L.length) (hm : L.length ≤ most) (h64 : most ≤ 64) (ht : w.ownsRow 0 3 1 vt ts.length (ints ts)) (hT : ts.length ≤ 1048576)
    (hM : May L ts N) (hN : N ≤ 1048576) (ha : Apart w b v vt) (hn : 0 ≤ n ∧ n ≤ 255) (hr : n / 2 % 4 = 0 ∨ n / 2 % 4 = 1) :
    Calls Try.prog 9 #[.pointer (some ⟨b, 0, none⟩), vt, .int .i64 n] w (WildPost w b v vt most ts.length N) := by
  have HT := Lib.hid (take_ok w b v L most n h hl (by omega))
  have hk := place_lt n hl
  generalize place n L.length = k at *
  obtain ⟨j, hj, hjt, hj1⟩ := hM.at hk
  have hjl := hM.le j hjt
  have hx : L.getD k 0 = (j : Int) := by rw [← hj]; simp [List.getD_eq_getElem?_getD, hk]
  rw [hx] at HT
  rcases ht.2 with ⟨rfl, h0⟩ | ⟨g, cap, cur, rfl, _, hg, hnc, hcm, hcs, htk⟩
  · omega
  obtain ⟨y, hy⟩ : ∃ y, ts.getD j 0 = y := ⟨_, rfl⟩
  have hcl := own_cell ht hjt
  rw [hy] at hj1 hjl hcl
  have HM := Lib.hid (hM.take hk hj hjt)
  rw [hy] at HM
  have HO := Lib.hid ht
  have HA := Lib.hid ha
  have HL := Lib.hid (And.intro hk hm)
  obtain ⟨n1, n2⟩ := hn
  have y2 : y ≤ 1048576 := by omega
  have j0 : (0 : Int) ≤ (j : Int) := by omega
  have j1 : (j : Int) < (ts.length : Int) := by omega
  have t1 : (ts.length : Int) ≤ 1048576 := by omega
  have hgt : g < w.heap.size := own_lt ht rfl
  clear hx hM ht ha h hm hl hj hy hk hg htk hcs
  have hend : ∀ w1, (∃ v', LineAt w1 b v' (L.eraseIdx k) most ∧ v'.ownBlock = v.ownBlock ∧ Fr (b :: v.ownBlock.toList) w w1) →
      (w1.cell? ⟨g, j, none⟩ = some (.int .i64 y) ∧ w1.frozen? ⟨g, j, none⟩ = false) ∧ WildPost w b v (.slice (some ⟨g, 0, none⟩) ts.length cap) most ts.length N (.returned (.bool true)) (w1.setCell ⟨g, j, none⟩ (.int .i64 (y - 1))) := by
    rintro w1 ⟨v', hl', ho, hf⟩
    have hgS : g ∉ b :: v.ownBlock.toList := by
      intro hm
      rcases List.mem_cons.1 hm with hm | hm
      · subst hm; exact HA.out.bt (by simp [Value.ownBlock])
      · exact HA.out.vt g (by simpa using hm) (by simp [Value.ownBlock])
    have ht1 := own_fr HO.out hf (fun g' hg' => by cases hg'; exact hgS)
    refine ⟨⟨(hf.cell (a := ⟨g, j, none⟩) hgt hgS).trans hcl.1, (hf.frozen (a := ⟨g, j, none⟩) hgt hgS).trans hcl.2⟩, rfl, v', _, _, ?_, ?_, own_set ht1 hjt (y - 1), by rw [List.length_set], HM.out.mono (by omega), .inl ho, ?_⟩
    · refine hl'.fr ((Fr.refl [g] w1).setCell ⟨g, j, none⟩ _ (.inl (by simp))) ?_ ?_
      · intro hm; simp at hm; subst hm; exact HA.out.bt (by simp [Value.ownBlock])
      · intro g' hg' hm; simp at hm; subst hm; rw [ho] at hg'; exact HA.out.vt g' hg' (by simp [Value.ownBlock])
    · rw [List.length_eraseIdx, if_pos HL.out.1]; have := HL.out.2; omega
    · exact (hf.mono (fun x hx => .inl (by rcases List.mem_cons.1 hx with h | h; exact (by simp [h]); exact List.mem_cons_of_mem _ (List.mem_append_left _ h)))).setCell _ _ (.inl (by simp [Value.ownBlock]))
  have HE := Lib.hid hend
  clear hend hcl
  rcases hr with hr | hr
  all_goals
    go_enter Try.func9, Try.ntmps9
    go_wp2_with fail
    (with_reducible refine HT.out.mono ?_)
    rintro e w1 ⟨rfl, hp⟩
    obtain ⟨⟨e1, e2⟩, e3⟩ := HE.out w1 hp
    have E3 := Lib.hid e3
    clear e3 hp
    go_wp2
    go_ret
    exact E3.out

theorem same_wild {w w' : World} {b : Nat} {v vt : Value} {L ts : List Int} {most N : Nat} (h : LineAt w b v L most) (hm : L.length ≤ most) (ht : w.ownsRow 0 3 1 vt ts.length (ints ts)) (hM : May L ts N) (f : Fr [] w w') :
    WildPost w b v vt most ts.length N (.returned (.bool true)) w' :=
  ⟨rfl, v, L, ts, h.fr f (by simp) (by simp), hm, own_fr ht f (by simp), rfl, hM.mono (by omega), .inl rfl, f.mono (by simp)⟩

theorem wild_take0 (w : World) (b : Nat) (v vt : Value) (ts : List Int) (most N : Nat) (n : Int) (h : LineAt w b v [] most) (ht : w.ownsRow 0 3 1 vt ts.length (ints ts)) (hM : May [] ts N) (hn : 0 ≤ n ∧ n ≤ 255) (hr : n / 2 % 4 = 0 ∨ n / 2 % 4 = 1) :
    Calls Try.prog 9 #[.pointer (some ⟨b, 0, none⟩), vt, .int .i64 n] w (WildPost w b v vt most ts.length N) := by
  have HT := Lib.hid (take_no w b v most n h)
  have HE := Lib.hid (same_wild h (by simp) ht hM (Fr.refl [] w))
  obtain ⟨n1, n2⟩ := hn
  clear h ht hM
  rcases hr with hr | hr
  all_goals
    go_enter Try.func9, Try.ntmps9
    go_wp2_with fail
    (with_reducible refine HT.out.mono ?_)
    rintro e w1 ⟨rfl, rfl⟩
    go_wp2
    go_ret
    exact HE.out

set_option maxHeartbeats 1000000 in
theorem wild_lose (w : World) (b : Nat) (v vt : Value) (L ts : List Int) (most N : Nat) (n : Int) (h : LineAt w b v L most) (hl : 0 < L.length) (hm : L.length ≤ most) (h64 : most ≤ 64) (ht : w.ownsRow 0 3 1 vt ts.length (ints ts))
    (hM : May L ts N) (ha : Apart w b v vt) (hn : 0 ≤ n ∧ n ≤ 255) (hr : n / 2 % 4 = 3) :
    Calls Try.prog 9 #[.pointer (some ⟨b, 0, none⟩), vt, .int .i64 n] w (WildPost w b v vt most ts.length N) := by
  have HT := Lib.hid (lose_ok w b v L most n h hl (by omega))
  have HLn := Lib.hid (len_any w b v L most h)
  have hk := place_lt n hl
  generalize place n L.length = k at *
  have HM := Lib.hid (hM.lose hk)
  obtain ⟨n1, n2⟩ := hn
  have hle : (L.eraseIdx k).length = L.length - 1 := by rw [List.length_eraseIdx, if_pos hk]
  have hll : ((L.eraseIdx k).length : Int) < (L.length : Int) := by omega
  have hend : ∀ w1, (∃ v', LineAt w1 b v' (L.eraseIdx k) most ∧ v'.ownBlock = v.ownBlock ∧ Fr (b :: v.ownBlock.toList) w w1) →
      WildPost w b v vt most ts.length N (.returned (.bool true)) w1 := by
    rintro w1 ⟨v', hl', ho, hf⟩
    refine ⟨rfl, v', _, ts, hl', by omega, own_fr ht hf (fun g hg hm => ?_), rfl, HM.out.mono (by omega), .inl ho, hf.mono (fun x hx => .inl ?_)⟩
    · rcases List.mem_cons.1 hm with hm | hm
      · subst hm; exact ha.bt (by simp [hg])
      · exact ha.vt g (by simpa using hm) (by simp [hg])
    · rcases List.mem_cons.1 hx with h | h
      · simp [h]
      · exact List.mem_cons_of_mem _ (List.mem_append_left _ h)
  have HE := Lib.hid hend
  clear hend hM ht ha h hm hl hk hle
  go_enter Try.func9, Try.ntmps9
  go_wp2_with fail
  (with_reducible refine HLn.out.mono ?_)
  rintro e w0 ⟨rfl, rfl⟩
  go_wp2_with fail
  (with_reducible refine HT.out.mono ?_)
  rintro e w1 ⟨rfl, hp⟩
  have hp' := hp
  obtain ⟨v', hl', _⟩ := hp'
  have HL2 := Lib.hid (len_any w1 b v' _ most hl')
  have HP := Lib.hid hp
  clear hp hl'
  go_wp2_with fail
  (with_reducible refine HL2.out.mono ?_)
  rintro e w2 ⟨rfl, rfl⟩
  go_wp2
  go_ret
  exact HE.out _ HP.out

theorem wild_lose0 (w : World) (b : Nat) (v vt : Value) (ts : List Int) (most N : Nat) (n : Int) (h : LineAt w b v [] most) (ht : w.ownsRow 0 3 1 vt ts.length (ints ts)) (hM : May [] ts N) (hn : 0 ≤ n ∧ n ≤ 255) (hr : n / 2 % 4 = 3) :
    Calls Try.prog 9 #[.pointer (some ⟨b, 0, none⟩), vt, .int .i64 n] w (WildPost w b v vt most ts.length N) := by
  have HT := Lib.hid (lose_no w b v most n h)
  have HLn := Lib.hid (len_zero w b v most h)
  have HE := Lib.hid (same_wild h (by simp) ht hM (Fr.refl [] w))
  obtain ⟨n1, n2⟩ := hn
  clear h ht hM
  go_enter Try.func9, Try.ntmps9
  go_wp2_with (first | (go_at_call 11; refine HLn.out.mono ?_; rintro e w1 ⟨rfl, rfl⟩) | (go_at_call 17; refine HT.out.mono ?_; rintro e w1 ⟨rfl, rfl⟩))
  go_ret
  exact HE.out

end Go.Proofs.Ytobagienhaaceaa
