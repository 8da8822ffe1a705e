/-
  A ring of texts: All. Printed by genRg.py.
-/
import Derived.Test.YtiimmndhinoaiaaDoorRgSE
import Derived.Test.YtiimmndhinoaiaaDoorRefB
import Derived.Deep.CutBlock
namespace Go.Proofs.YtiimmndhinoaiaaDoor.RgS
open Go.RowKit ring
set_option linter.unusedVariables false
set_option linter.unusedSimpArgs false
attribute [local go_sem] Oper.semAt_some
attribute [local go_sem ↓] Go.wp_at_zero Go.wp_at_succ

def AllHeld (k : Nat) (vr : Value) (L : List ByteArray) (W : World) : Prop := Blk W k #[vr] 24 ∧ W.ownsRow 0 9 1 vr L.length (strs L)
theorem AllHeld.fr {S : List Nat} {k : Nat} {vr : Value} {L : List ByteArray} {W W' : World} (h : AllHeld k vr L W) (f : Fr S W W') (hk : k ∉ S) (hv : ∀ g, vr.ownBlock = some g → g ∉ S) : AllHeld k vr L W' :=
  ⟨f.blk h.1 hk, own_fr h.2 f hv⟩
/-- The list in the making. -/
structure Mk (w W : World) (kb : Nat) (L : List ByteArray) (lv : Value) : Prop where
  bl : Blk W kb #[lv] 24
  ow : W.ownsRow 0 9 1 lv L.length (strs L)
  nw : ∀ g, lv.ownBlock = some g → w.heap.size ≤ g
  fr : Fr [] w W
theorem Mk.fr0 {w W W' : World} {kb : Nat} {L : List ByteArray} {lv : Value} (h : Mk w W kb L lv) (f : Fr [] W W') : Mk w W' kb L lv :=
  ⟨f.blk h.bl (by simp), own_fr h.ow f (by simp), h.nw, h.fr.trans f (by simp)⟩
theorem Mk.app {w W w3 : World} {kb : Nat} {L : List ByteArray} {lv v1 : Value} {x : ByteArray} (h : Mk w W kb L lv) (hk : w.heap.size ≤ kb) (ha : Appended W 9 1 lv (L.length + 1) (strs L ++ [.string x]) v1 w3) :
    (w3.cell? ⟨kb, 0, none⟩ = some lv ∧ w3.frozen? ⟨kb, 0, none⟩ = false) ∧ Mk w (w3.setCell ⟨kb, 0, none⟩ v1) kb (L ++ [x]) v1 := by
  have f := ha.fr
  have hb3 := f.blk h.bl (own_notin h.ow h.bl (by decide))
  have f3 : Fr [] w w3 := h.fr.trans f (fun g hg => .inr (h.nw g (by simpa using hg)))
  have hn : ∀ g, v1.ownBlock = some g → w.heap.size ≤ g := fun g hg => by
    rcases ha.place with hp | hp
    · exact h.nw g (by rw [← hp]; exact hg)
    · rw [hp] at hg; simp at hg; have := h.fr.size; omega
  have f4 : Fr [kb] w3 (w3.setCell ⟨kb, 0, none⟩ v1) := (Fr.refl _ w3).setCell _ _ (.inl (by simp))
  have e1 : strs (L ++ [x]) = strs L ++ [.string x] := by simp [strs]
  refine ⟨⟨hb3.at 0 rfl, hb3.free 0⟩, hb3.set 0 v1, ?_, hn, f3.trans f4 (by simpa using hk)⟩
  rw [e1, List.length_append]
  exact own_fr ha.own f4 (fun g hg hm => by simp at hm; subst hm; exact own_notin ha.own hb3 (by decide) (by simp [hg]))
def AllPost (w : World) (L : List ByteArray) (e : Ending) (w' : World) : Prop :=
  ∃ k vr, e = .returned (.func (.func 50) #[] #[.pointer (some ⟨k, 0, none⟩)]) ∧ AllHeld k vr L w' ∧ w.heap.size ≤ k ∧ (∀ g, vr.ownBlock = some g → w.heap.size ≤ g) ∧ Fr [] w w'
set_option maxRecDepth 100000 in
set_option maxHeartbeats 1000000 in
theorem all_any (w : World) (b g : Nat) (Cs : List ByteArray) (f : Nat) (L : List ByteArray) (M : RM) (h : RingAt w b g Cs f L M) : Calls Tryd.prog 22 #[.pointer (some ⟨b, 0, none⟩)] w (AllPost w L) := by
  obtain ⟨kb, hkb⟩ : ∃ kb, kb = w.heap.size := ⟨_, rfl⟩
  have hmk : Mk w (w.alloc (.cells #[.slice none 0 0] 24)) kb [] (.slice none 0 0) := by
    rw [hkb]
    exact ⟨Blk.new _ _ _, World.ownsRow_nil _ _ _ _, fun g hg => by simp [Value.ownBlock] at hg, (Fr.refl [] w).alloc _⟩
  have hR1 := h.fr ((Fr.refl [] w).alloc (.cells #[.slice none 0 0] 24)) (by simp) (by simp)
  have hl := len_any _ b g Cs f L M hR1
  obtain ⟨n, hn⟩ : ∃ n, n = L.length := ⟨_, rfl⟩
  have hlen := h.len
  have hm64 := h.m64
  have hn64 : n ≤ 65536 := by omega
  rw [← hn] at hl
  have HL := Lib.hid hl
  have HFIN := Lib.hid (show ∀ lv W, Mk w W kb L lv → AllPost w L (.returned (.func (.func 50) #[] #[.pointer (some ⟨kb, 0, none⟩)])) W from fun lv W hM => ⟨kb, lv, rfl, ⟨hM.bl, hM.ow⟩, by omega, hM.nw, hM.fr⟩)
  have H0 := Lib.hid (And.intro hmk (And.intro h (And.intro hn hkb)))
  clear hmk hR1 hl h hn hlen hm64
  go_enter Tryd.func22, Tryd.ntmps22
  go_wp2_with fail
  (with_reducible refine HL.out.mono ?_)
  rintro e w1 ⟨rfl, rfl⟩
  simp only [← hkb]
  clear hkb
  go_wp2_with fail
  go_loopw [9] (fun i wr => ∃ (k : Nat) (lv : Value), i = .int .i64 k ∧ k ≤ n ∧ Mk w wr kb (L.take k) lv) (fun i _ => n - (intOf i).toNat)
  case atStart => exact ⟨0, .slice none 0 0, rfl, Nat.zero_le _, by simpa using H0.out.1⟩
  case round =>
    obtain ⟨k, lv, rfl, hk, hM⟩ := hrel
    obtain ⟨wi, rfl⟩ : ∃ wi : World, wi = wr := ⟨_, rfl⟩
    by_cases hlt : k < n
    · obtain ⟨-, hR, hn, hkb⟩ := H0.out
      obtain ⟨x, hx⟩ : ∃ x, L[k]? = some x := ⟨_, List.getElem?_eq_getElem (by omega)⟩
      have hRi := hR.fr hM.fr (by simp) (by simp)
      have hat := at_any wi b g Cs f L M (k : Nat) hRi
      rw [show atRes L (k : Nat) = .tuple #[.string x, .bool true] by unfold atRes; rw [if_pos (by omega), Int.toNat_natCast, List.getD_eq_getElem?_getD, hx]; rfl] at hat
      have HAt := Lib.hid hat
      have htk : L.take k ++ [x] = L.take (k + 1) := by
        obtain ⟨h7, h8⟩ := List.getElem?_eq_some_iff.1 hx
        rw [← h8, List.take_succ_eq_append_getElem]
      have htl : (L.take k).length = k := by rw [List.length_take]; omega
      have HM := Lib.hid (And.intro hM (And.intro htk (And.intro htl (show w.heap.size ≤ kb by omega))))
      clear hR hn hkb hx hRi htk htl hM hat
      go_wp2_with fail
      (with_reducible refine HAt.out.mono ?_)
      rintro e w2 ⟨rfl, m2, rfl⟩
      have HM3 := Lib.hid (HM.out.1.fr0 ((Fr.refl [] _).drewN m2))
      generalize World.drewN wi m2 = w3 at *
      have c1 := HM3.out.bl.at 0 (v := lv) rfl
      obtain ⟨p1, cc1, hlv⟩ := own_form HM3.out.ow
      rw [HM.out.2.2.1] at hlv
      subst hlv
      have HO := Lib.hid (show (w3.alloc (.cells #[.string x] 9)).ownsRow 0 9 1 (.slice p1 k cc1) k (strs (L.take k)) by
        have := (HM3.out.fr0 ((Fr.refl [] w3).alloc (.cells #[.string x] 9))).ow
        rw [HM.out.2.2.1] at this
        exact this)
      go_wp2_with (at_builtin; go_must (refine wpList_app _ rfl _ _ 24 rfl 9 (.string (⟨#[]⟩ : ByteArray)) 1 16 Tryd.underlying24 infoE rfl (by decide) (.slice p1 k cc1) k (strs (L.take k)) rfl HO.out ⟨w3.heap.size, 0, none⟩ 1 1 [.string x] rfl rfl (new_one _ _ _ _ rfl) (by simp [Value.oneCell']) (by unfold maxLen; omega) (by omega) ?_); intro v1 w4 happ; obtain ⟨g1, cp1, rfl⟩ := own_succ happ.own; obtain ⟨⟨q1, q2⟩, q3⟩ := (HM3.out.fr0 ((Fr.refl [] w3).alloc (.cells #[.string x] 9))).app HM.out.2.2.2 (by rw [HM.out.2.2.1]; exact happ); have Q3 := Lib.hid q3; clear q3 happ)
      have hM5 := Q3.out
      rw [HM.out.2.1] at hM5
      have HM5 := Lib.hid hM5
      clear hM5
      first
        | (refine ⟨⟨k + 1, _, by go_num, by omega, HM5.out⟩, ?_⟩
           simp [intOf]; omega)
        | (go_roundw
           case rel => exact ⟨k + 1, _, by go_num, by omega, HM5.out⟩
           case measure => simp [intOf]; omega)
    · obtain rfl : n = k := by omega
      have htk : L.take n = L := by rw [H0.out.2.2.1]; exact List.take_length
      rw [htk] at hM
      have HM := Lib.hid (HFIN.out _ _ hM)
      clear hM htk
      go_wp2
      go_ret
      exact HM.out

end Go.Proofs.YtiimmndhinoaiaaDoor.RgS
