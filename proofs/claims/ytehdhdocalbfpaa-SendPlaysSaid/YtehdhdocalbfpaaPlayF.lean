/-
  All of a ring of events: the list that it makes, by contract.
-/
import Derived.Test.YtehdhdocalbfpaaPlayE
import Derived.Deep.CutBlock
namespace Go.Proofs.Ytehdhdocalbfpaa
open Go.RowKit ring
set_option linter.unusedVariables false
attribute [local go_sem ↓] Go.wp_at_zero Go.wp_at_succ newVar56
attribute [local go_sem] ev_layEv_same can_new run_storeEv0 run_newEv run_newEv'

/-- The list in the making. -/
structure Mk (w W : World) (kb : Nat) (L : List Ev) (lv : Value) : Prop where
  bl : Blk W kb #[lv] 42
  ow : W.ownsRow 0 56 8 lv L.length (evs L)
  nw : ∀ g, lv.ownBlock = some g → w.heap.size ≤ g
  fr : Fr [] w W
theorem Mk.fr0 {w W W' : World} {kb : Nat} {L : List Ev} {lv : Value} (h : Mk w W kb L lv) (f : Fr [] W W') : Mk w W' kb L lv :=
  ⟨f.blk h.bl (by simp), own_fr h.ow f (by simp), h.nw, h.fr.trans f (by simp)⟩
theorem Mk.app {w W w3 : World} {kb : Nat} {L : List Ev} {lv v1 : Value} {x : Ev} (h : Mk w W kb L lv) (hk : w.heap.size ≤ kb) (ha : Appended W 56 8 lv (L.length + 1) (evs L ++ x.cells) v1 w3) :
    (w3.cell? ⟨kb, 0, none⟩ = some lv ∧ w3.frozen? ⟨kb, 0, none⟩ = false) ∧ Mk w (w3.setCell ⟨kb, 0, none⟩ v1) kb (L ++ [x]) v1 := by
  have f := ha.fr
  have hb3 := f.blk h.bl (own_notin h.ow h.bl (by decide))
  have f3 : Fr [] w w3 := h.fr.trans f (fun g hg => .inr (h.nw g (by simpa using hg)))
  have hn : ∀ g, v1.ownBlock = some g → w.heap.size ≤ g := fun g hg => by
    rcases ha.place with hp | hp
    · exact h.nw g (by rw [← hp]; exact hg)
    · rw [hp] at hg; simp at hg; have := h.fr.size; omega
  have f4 : Fr [kb] w3 (w3.setCell ⟨kb, 0, none⟩ v1) := (Fr.refl _ w3).setCell _ _ (.inl (by simp))
  have e1 : evs (L ++ [x]) = evs L ++ x.cells := by simp [evs]
  refine ⟨⟨hb3.at 0 rfl, hb3.free 0⟩, hb3.set 0 v1, ?_, hn, f3.trans f4 (by simpa using hk)⟩
  rw [e1, List.length_append]
  exact own_fr ha.own f4 (fun g hg hm => by simp at hm; subst hm; exact own_notin ha.own hb3 (by decide) (by simp [hg]))
set_option maxRecDepth 100000 in
set_option maxHeartbeats 1000000 in
theorem eall_any (w : World) (b g : Nat) (Cs : List Ev) (f : Nat) (L : List Ev) (most : Nat) (h : ERing w b g Cs f L most) : Calls Try.prog 62 #[.pointer (some ⟨b, 0, none⟩)] w fun e w' => ∃ lv, e = .returned (.func (Fn.func 79) #[] #[.pointer (some ⟨w.heap.size, 0, none⟩)]) ∧ Mk w w' w.heap.size L lv := by
  obtain ⟨kb, hkb⟩ : ∃ kb, kb = w.heap.size := ⟨_, rfl⟩
  have hmk : Mk w (w.alloc (.cells #[.slice none 0 0] 42)) kb [] (.slice none 0 0) := by
    rw [hkb]
    exact ⟨Blk.new _ _ _, World.ownsRow_nil _ _ _ _, fun g hg => by simp [Value.ownBlock] at hg, (Fr.refl [] w).alloc _⟩
  have hR1 := h.fr ((Fr.refl [] w).alloc (.cells #[.slice none 0 0] 42)) (by simp) (by simp)
  have hl := elen _ b g Cs f L most hR1
  obtain ⟨n, hn⟩ : ∃ n, n = L.length := ⟨_, rfl⟩
  have hlen := h.len
  have hm64 := h.m64
  rw [← hn] at hl hlen
  have HL := Lib.hid hl
  have H0 := Lib.hid (And.intro hmk (And.intro h (And.intro hn hkb)))
  rw [← hkb]
  clear hmk hR1 hl h hn
  go_enter Try.func62, Try.ntmps62
  go_wp2_with fail
  (with_reducible refine HL.out.mono ?_)
  rintro e w1 ⟨rfl, rfl⟩
  simp only [← hkb]
  clear hkb
  go_wp2_with fail
  go_loopw [9] (fun i wr => ∃ (k : Nat) (lv : Value), i = .int .i64 k ∧ k ≤ n ∧ Mk w wr kb (L.take k) lv) (fun i _ => n - (intOf i).toNat)
  case atStart => exact ⟨0, .slice none 0 0, rfl, Nat.zero_le _, by simpa using H0.out.1⟩
  case round =>
    obtain ⟨k, lv, rfl, hk, hM⟩ := hrel
    obtain ⟨wi, rfl⟩ : ∃ wi : World, wi = wr := ⟨_, rfl⟩
    by_cases hlt : k < n
    · obtain ⟨-, hR, hn, hkb⟩ := H0.out
      obtain ⟨x, hx⟩ : ∃ x, L[k]? = some x := ⟨_, List.getElem?_eq_getElem (by omega)⟩
      have hRi := hR.fr hM.fr (by simp) (by simp)
      have HAt := Lib.hid (eat wi b g Cs f L most k x hRi hx)
      have htk : L.take k ++ [x] = L.take (k + 1) := by
        obtain ⟨h7, h8⟩ := List.getElem?_eq_some_iff.1 hx
        rw [← h8, List.take_succ_eq_append_getElem]
      have htl : (L.take k).length = k := by rw [List.length_take]; omega
      have HM := Lib.hid (And.intro hM (And.intro htk (And.intro htl (show w.heap.size ≤ kb by omega))))
      clear hR hn hkb hx hRi htk htl hM
      go_wp2_with fail
      (with_reducible refine HAt.out.mono ?_)
      rintro e w2 ⟨rfl, f2, -⟩
      have hM2 := HM.out.1.fr0 f2
      obtain ⟨y, hy⟩ : ∃ y, y = w2.heap.size := ⟨_, rfl⟩
      have f3 : Fr [] w2 (layEv (w2.alloc (.cells Ev.zero.cells.toArray 56)) y 0 x) := (((Fr.refl [y] w2).alloc _).setEv 0 x (.inl (by simp))).mono (by simp [hy])
      have hM3 := hM2.fr0 f3
      have ey := ev_layEv_same (w2.alloc (.cells Ev.zero.cells.toArray 56)) y 0 x (by rw [hy]; exact can_new w2)
      have HM3 := Lib.hid hM3
      clear f2 hM2 f3 hM3
      have hfold := fold_ev
      have hlen8 : ∀ e : Ev, e.cells.length = 8 := fun e => rfl
      go_upto_region 6 with fail
      simp only [zero_cells, ← hy]
      clear hy
      generalize layEv _ y 0 x = w3 at *
      have c1 := HM3.out.bl.at 0 (v := lv) rfl
      obtain ⟨p1, cc1, hlv⟩ := own_form HM3.out.ow
      rw [HM.out.2.2.1] at hlv
      subst hlv
      have HO := Lib.hid (show (w3.alloc (.cells x.cells.toArray 56)).ownsRow 0 56 8 (.slice p1 k cc1) k (evs (L.take k)) by
        have := (HM3.out.fr0 ((Fr.refl [] w3).alloc (.cells x.cells.toArray 56))).ow
        rw [HM.out.2.2.1] at this
        exact this)
      go_wp2_with (at_builtin; go_must (refine wpList_app _ rfl _ _ 42 rfl 56 Ev.zero.val 8 40 Try.underlying42 info56b rfl (by decide) (.slice p1 k cc1) k (evs (L.take k)) rfl HO.out ⟨w3.heap.size, 0, none⟩ 1 1 x.cells rfl rfl (pnew_cells w3 x) (pev_one x) (by unfold maxLen; omega) (by omega) ?_); intro v1 w4 happ; obtain ⟨g1, cp1, rfl⟩ := own_succ happ.own; obtain ⟨⟨q1, q2⟩, q3⟩ := (HM3.out.fr0 ((Fr.refl [] w3).alloc (.cells x.cells.toArray 56))).app HM.out.2.2.2 (by rw [HM.out.2.2.1]; exact happ); have Q3 := Lib.hid q3; clear q3 happ)
      have hM5 := Q3.out
      rw [HM.out.2.1] at hM5
      have HM5 := Lib.hid hM5
      clear hM5
      first
        | (refine ⟨⟨k + 1, _, by go_num, by omega, HM5.out⟩, ?_⟩
           simp [intOf]; omega)
        | (go_roundw
           case rel => exact ⟨k + 1, _, by go_num, by omega, HM5.out⟩
           case measure => simp [intOf]; omega)
    · obtain rfl : n = k := by omega
      have htk : L.take n = L := by rw [H0.out.2.2.1]; exact List.take_length
      rw [htk] at hM
      have HM := Lib.hid hM
      clear hM htk
      go_wp2
      go_ret
      exact ⟨lv, rfl, HM.out⟩

end Go.Proofs.Ytehdhdocalbfpaa
