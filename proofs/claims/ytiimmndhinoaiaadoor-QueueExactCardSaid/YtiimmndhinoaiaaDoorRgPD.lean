/-
  A ring of pairs: Set, Cut and Mark. Printed by genRp.py.
-/
import Derived.Test.YtiimmndhinoaiaaDoorRgPC
import Derived.Test.YtiimmndhinoaiaaDoorRegT
import Derived.LoopIn
namespace Go.Proofs.YtiimmndhinoaiaaDoor.RgP
open Go.RowKit ring
set_option linter.unusedVariables false
set_option linter.unusedSimpArgs false
attribute [local go_sem] Oper.semAt_some
attribute [local go_sem ↓] Go.wp_at_zero Go.wp_at_succ
attribute [local go_sem ↓] newVar65
attribute [local go_sem] pr_layPr_same can_new run_storePr0 run_newPr run_newPr'
def setL (L : List Int) (i : Int) (x : Int) : List Int := if 0 ≤ i ∧ i < L.length then L.set i.toNat x else L
def inside (n : Nat) (i : Int) : Bool := decide (0 ≤ i ∧ i < n)
theorem set_no (w : World) (b g : Nat) (Cs : List Int) (f : Nat) (L : List Int) (M : RM) (i : Int) (x : Int) (h : RingAt w b g Cs f L M) (hi : i < 0 ∨ (L.length : Int) ≤ i) : Calls Tryd.prog 62 #[.pointer (some ⟨b, 0, none⟩), .int .i64 i, pval x] w fun e w' => e = .returned (.bool false) ∧ Fr [] w w' := by
  obtain ⟨w1, hw1⟩ : ∃ w1, w1 = w.alloc (.cells (pcells x).toArray 65) := ⟨_, rfl⟩
  have f1 : Fr [] w w1 := by rw [hw1]; exact (Fr.refl [] w).alloc _
  have hl := Lib.hid (len_any w1 b g Cs f L M (h.fr f1 (by simp) (by simp)))
  have HF := Lib.hid f1
  clear h f1
  by_cases h0 : i < 0
  · clear hi
    go_enter Tryd.func62, Tryd.ntmps62
    go_upto_region 1 with fail
    rw [← hw1]
    clear hw1
    go_wp2
    go_ret
    exact ⟨rfl, HF.out⟩
  · have h1 : (L.length : Int) ≤ i := by omega
    clear hi
    go_enter Tryd.func62, Tryd.ntmps62
    go_upto_region 1 with fail
    rw [← hw1]
    clear hw1
    go_wp2_with (go_at_call 75; refine hl.out.mono ?_; rintro e w2 ⟨rfl, rfl⟩)
    go_ret
    exact ⟨rfl, HF.out⟩
set_option maxRecDepth 100000 in
set_option maxHeartbeats 1000000 in
theorem set_ok (w : World) (b g : Nat) (Cs : List Int) (f : Nat) (L : List Int) (M : RM) (i : Nat) (x : Int) (h : RingAt w b g Cs f L M) (hi : i < L.length) : Calls Tryd.prog 62 #[.pointer (some ⟨b, 0, none⟩), .int .i64 i, pval x] w (PPost w b g (L.set i x) M (.bool true)) := by
  have hle := h.ho.le
  have hN := h.le
  have hm := h.m64
  have hf := h.ho.lt
  have i1 : (i : Int) < (L.length : Int) := by omega
  obtain ⟨w1, hw1⟩ : ∃ w1, w1 = w.alloc (.cells (pcells x).toArray 65) := ⟨_, rfl⟩
  obtain ⟨z, hz⟩ : ∃ z, z = w.heap.size := ⟨_, rfl⟩
  have f1 : Fr [] w w1 := by rw [hw1]; exact (Fr.refl [] w).alloc _
  have hZ1 : Blk w1 z (pcells x).toArray 65 := by rw [hw1, hz]; exact Blk.new w _ 65
  have hR1 := h.fr f1 (by simp) (by simp)
  have hl := Lib.hid (len_any w1 b g Cs f L M hR1)
  have hzg : z ≠ g := by have := h.pl.lt; omega
  obtain ⟨c0, c1, c2, c3, c4, c5, c6, c7, c8, c9, cf⟩ := hdr_cells hR1.hd
  obtain ⟨k, hk⟩ : ∃ k, (f + i) % Cs.length = k := ⟨_, rfl⟩
  have hkl : k < Cs.length := by rw [← hk]; exact Nat.mod_lt _ (by omega)
  have hcan := hR1.pl.prCan hkl
  have hbx := hZ1.prOne
  have hbg := h.ne
  have hp := Lib.hid (fun (W : World) (d0 : W.cell? ⟨b, 0, none⟩ = some (.slice (some ⟨g, 0, none⟩) Cs.length Cs.length)) (d2 : W.cell? ⟨b, 2, none⟩ = some (.int .i64 f)) => place_any W b g Cs.length f i d0 d2 (by omega) (by omega) hf (by omega))
  rw [hk] at hp
  have k1 : (0 : Int) ≤ (k : Int) := by omega
  have k2 : (k : Int) < (Cs.length : Int) := by omega
  have hend : ∀ m, PPost w b g (L.set i x) M (.bool true) (.returned (.bool true)) (layPr (w1.drewN m) g (k * 2) x) := by
    intro m
    have hs := h.ho.set i hi x
    rw [hk] at hs
    refine ⟨rfl, g, Cs.set k x, f, ⟨?_, Blk.setPr (hR1.pl.drewN m) hkl x, hs, by rw [List.length_set]; exact hN, hm⟩, .inl rfl, ((f1.mono (by simp)).drewN m).setPr _ _ (.inl (by simp))⟩
    rw [List.length_set, List.length_set]
    exact Blk.otherPr (hR1.hd.drewN m) _ _ hbg
  have HE := Lib.hid hend
  clear h hk hend c1 c3 c4 c5 c6 c7 c8 c9 cf hZ1 hR1 f1
  go_enter Tryd.func62, Tryd.ntmps62
  go_upto_region 1 with fail
  rw [← hw1]
  simp only [← hz]
  clear hw1 hz
  go_wp2_with (go_at_call 75; refine hl.out.mono ?_; rintro e w2 ⟨rfl, rfl⟩)
  go_region_held3 (fun w' => w'.cell? ⟨b, 0, none⟩ = some (.slice (some ⟨g, 0, none⟩) Cs.length Cs.length) ∧ w'.cell? ⟨b, 2, none⟩ = some (.int .i64 f) ∧ pr? w' z 0 = some (pval x)) ((try simp only [World.cell?_drew, World.cell?_drewN, pr_drew, pr_drewN, cell_layPr' _ _ _ _ _ _ hbg, pr_layPr _ _ _ _ _ _ hzg]; exact ⟨c0, c2, hbx⟩))
    ((go_at_call 97; refine (hp.out _ (by exact c0) (by exact c2)).mono ?_; rintro e w4 ⟨rfl, mm, rfl⟩))
  go_wp2
  go_ret
  exact HE.out _
theorem set_any (w : World) (b g : Nat) (Cs : List Int) (f : Nat) (L : List Int) (M : RM) (i : Int) (x : Int) (h : RingAt w b g Cs f L M) : Calls Tryd.prog 62 #[.pointer (some ⟨b, 0, none⟩), .int .i64 i, pval x] w (PPost w b g (setL L i x) M (.bool (inside L.length i))) := by
  by_cases hi : 0 ≤ i ∧ i < L.length
  · obtain ⟨j, rfl⟩ : ∃ j : Nat, i = j := ⟨i.toNat, by omega⟩
    unfold setL inside
    rw [if_pos hi, decide_eq_true hi, Int.toNat_natCast]
    exact set_ok w b g Cs f L M j x h (by omega)
  · unfold setL inside
    rw [if_neg hi, decide_eq_false hi]
    refine (set_no w b g Cs f L M i x h (by omega)).mono ?_
    rintro e w' ⟨rfl, f'⟩
    exact ⟨rfl, g, Cs, f, h.fr f' (by simp) (by simp), .inl rfl, f'.mono (by simp)⟩
/-- Mark. -/
theorem mark_bad (w : World) (b g : Nat) (Cs : List Int) (f : Nat) (L : List Int) (M : RM) (lo hi : Int) (h : RingAt w b g Cs f L M) (hb : M.bad lo hi) : Calls Tryd.prog 70 #[.pointer (some ⟨b, 0, none⟩), .int .i64 lo, .int .i64 hi] w fun e w' => e = .returned (.int .i64 2) ∧ w = w' := by
  obtain ⟨c0, c1, c2, c3, c4, c5, c6, c7, c8, c9, cf⟩ := hdr_cells h.hd
  have ht := Lib.hid (there_any w b M.most h.pos c1)
  unfold RM.bad at hb
  generalize M.most = mo at *
  clear h c0 c2 c3 c4 c5 c6 c7 c8 c9 cf
  by_cases h1 : lo < 0
  · clear hb
    go_enter Tryd.func70, Tryd.ntmps70
    go_wp2_with (go_at_call 96; refine ht.out.mono ?_; rintro e w1 ⟨rfl, rfl⟩)
    go_ret
    exact ⟨rfl, rfl⟩
  · by_cases h2 : hi ≤ lo
    · clear hb
      go_enter Tryd.func70, Tryd.ntmps70
      go_wp2_with (go_at_call 96; refine ht.out.mono ?_; rintro e w1 ⟨rfl, rfl⟩)
      go_ret
      exact ⟨rfl, rfl⟩
    · have h3 : (mo : Int) < hi := by omega
      clear hb
      go_enter Tryd.func70, Tryd.ntmps70
      go_wp2_with (go_at_call 96; refine ht.out.mono ?_; rintro e w1 ⟨rfl, rfl⟩)
      go_ret
      exact ⟨rfl, rfl⟩
set_option maxHeartbeats 1000000 in
theorem mark_ok (w : World) (b g : Nat) (Cs : List Int) (f : Nat) (L : List Int) (M : RM) (lo hi : Int) (h : RingAt w b g Cs f L M) (hb : ¬ M.bad lo hi) : Calls Tryd.prog 70 #[.pointer (some ⟨b, 0, none⟩), .int .i64 lo, .int .i64 hi] w (PPost w b g L (M.mark lo hi L.length) (.int .i64 0)) := by
  obtain ⟨c0, c1, c2, c3, c4, c5, c6, c7, c8, c9, cf⟩ := hdr_cells h.hd
  have ht := Lib.hid (there_any w b M.most h.pos c1)
  have f4 := cf 4
  have f5 := cf 5
  have f6 := cf 6
  have f7 := cf 7
  have hfin : PPost w b g L (M.mark lo hi L.length) (.int .i64 0) (.returned (.int .i64 0)) ((((w.setCell ⟨b, 4, none⟩ (.bool true)).setCell ⟨b, 5, none⟩ (.int .i64 lo)).setCell ⟨b, 6, none⟩ (.int .i64 hi)).setCell ⟨b, 7, none⟩ (.bool (decide (hi ≤ (L.length : Int))))) := by
    refine ⟨rfl, g, Cs, f, ⟨(((h.hd.set 4 (.bool true)).set 5 (.int .i64 lo)).set 6 (.int .i64 hi)).set 7 (.bool (decide (hi ≤ (L.length : Int)))), ((((h.pl.other _ _ (Ne.symm h.ne)).other _ _ (Ne.symm h.ne)).other _ _ (Ne.symm h.ne)).other _ _ (Ne.symm h.ne)), h.ho, h.le, h.m64⟩, .inl rfl, ((((Fr.refl _ w).setCell _ _ (.inl (by simp))).setCell _ _ (.inl (by simp))).setCell _ _ (.inl (by simp))).setCell _ _ (.inl (by simp))⟩
  have HF := Lib.hid hfin
  unfold RM.bad at hb
  have h1 : ¬ lo < 0 := fun h => hb (.inl h)
  have h2 : ¬ hi ≤ lo := fun h => hb (.inr (.inl h))
  have h3 : ¬ (M.most : Int) < hi := fun h => hb (.inr (.inr h))
  generalize L.length = n at *
  generalize M.mark lo hi n = M' at *
  generalize M.most = mo at *
  clear h hfin hb c0 c2 c8 c9 cf
  go_enter Tryd.func70, Tryd.ntmps70
  go_wp2_with (go_at_call 96; refine ht.out.mono ?_; rintro e w1 ⟨rfl, rfl⟩)
  go_ret
  exact HF.out

end Go.Proofs.YtiimmndhinoaiaaDoor.RgP
