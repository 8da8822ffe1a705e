/-
  copied: a list with the same numbers, but the one at a place.
-/
import Derived.Test.YtiimmndhinoaiaaDoorBks
import Derived.Test.YtiimmndhinoaiaaDoorRdF
namespace Go.Proofs.YtiimmndhinoaiaaDoor
open Go.RowKit Go.Shelf
set_option linter.unusedVariables false
attribute [local go_sem] Oper.semAt_some
theorem infoI : (Tryd.prog.info? 3).map (fun i => (i.zero, i.size, i.bytes)) = some (some (.int .i64 0), 1, 8) := by kernel_rfl
/-- The first j numbers but the one at b. -/
def cpy (L : List Int) (b : Int) : Nat → List Int
  | 0 => []
  | j + 1 => if (j : Int) = b then cpy L b j else cpy L b j ++ [L.getD j 0]
theorem cpy_len (L : List Int) (b : Int) : ∀ j, (cpy L b j).length ≤ j
  | 0 => Nat.le_refl _
  | j + 1 => by
    have := cpy_len L b j
    unfold cpy
    split
    · omega
    · simp only [List.length_append, List.length_singleton]; omega
theorem cpy_all (L : List Int) (b : Int) (hb : b < 0) : ∀ j, j ≤ L.length → cpy L b j = L.take j
  | 0, _ => by simp [cpy]
  | j + 1, h => by
    unfold cpy
    rw [if_neg (by omega), cpy_all L b hb j (by omega), List.take_succ_eq_append_getElem (by omega)]
    simp [List.getD_eq_getElem?_getD, show j < L.length by omega]
theorem cpy_but (L : List Int) (k : Nat) (hk : k < L.length) : ∀ j, j ≤ L.length → cpy L (k : Int) j = if j ≤ k then L.take j else L.take k ++ (L.take j).drop (k + 1)
  | 0, _ => by simp [cpy]
  | j + 1, h => by
    have ih := cpy_but L k hk j (by omega)
    unfold cpy
    by_cases e : j = k
    · subst e
      rw [if_pos rfl, ih, if_pos (Nat.le_refl _), if_neg (by omega)]
      rw [List.drop_eq_nil_of_le (by simp; omega), List.append_nil]
    · rw [if_neg (by omega), ih]
      have hg : L.getD j 0 = L[j] := by simp [List.getD_eq_getElem?_getD, show j < L.length by omega]
      rw [hg]
      by_cases hlt : j < k
      · rw [if_pos (by omega), if_pos (by omega), List.take_succ_eq_append_getElem (by omega)]
      · rw [if_neg (by omega), if_neg (by omega), List.take_succ_eq_append_getElem (show j < L.length by omega), List.append_assoc]
        congr 1
        rw [List.drop_append_of_le_length (by simp; omega)]
theorem cpy_full (L : List Int) (b : Int) (hb : b < 0) : cpy L b L.length = L := by rw [cpy_all L b hb _ (Nat.le_refl _), List.take_of_length_le (Nat.le_refl _)]
theorem cpy_erase (L : List Int) (k : Nat) (hk : k < L.length) : cpy L (k : Int) L.length = L.eraseIdx k := by
  rw [cpy_but L k hk _ (Nat.le_refl _), if_neg (by omega), List.take_of_length_le (Nat.le_refl _), List.eraseIdx_eq_take_drop_succ]
/-- What copied answers. -/
def CopPost (w : World) (L : List Int) (b : Int) (e : Ending) (w' : World) : Prop :=
  ∃ v', e = .returned v' ∧ w'.ownsRow 0 3 1 v' (cpy L b L.length).length (ints (cpy L b L.length)) ∧ Fr [] w w' ∧ ∀ g, v'.ownBlock = some g → w.heap.size ≤ g
/-- At the loop's head. -/
def CopAt (w : World) (L : List Int) (b : Int) (j : Nat) (v : Value) (W : World) : Prop :=
  W.ownsRow 0 3 1 v (cpy L b j).length (ints (cpy L b j)) ∧ Fr [] w W ∧ ∀ g, v.ownBlock = some g → w.heap.size ≤ g
theorem CopAt.app {w W w3 : World} {L : List Int} {b : Int} {j : Nat} {v v1 : Value} {o : Obj} (h : CopAt w L b j v W) (hb : (j : Int) ≠ b)
    (ha : Appended (W.alloc o) 3 1 v ((cpy L b j).length + 1) (ints (cpy L b j) ++ [.int .i64 (L.getD j 0)]) v1 w3) : CopAt w L b (j + 1) v1 w3 := by
  have e : cpy L b (j + 1) = cpy L b j ++ [L.getD j 0] := by rw [cpy, if_neg hb]
  refine ⟨?_, (h.2.1.alloc o).trans ha.fr (fun x hx => .inr (h.2.2 x (by simpa using hx))), fun g hg => ?_⟩
  · rw [e, List.length_append, List.length_singleton]
    have := ha.own
    simpa [ints] using this
  · rcases ha.place with q | q
    · exact h.2.2 g (by rw [← q]; exact hg)
    · rw [hg] at q; cases q
      have := h.2.1.size
      simp; omega
set_option maxRecDepth 100000 in
set_option maxHeartbeats 1000000 in
theorem copied_any (w : World) (pv : Value) (L : List Int) (b : Int) (h : RdF w pv L.length 1 (ints L)) (hl : L.length ≤ 1048576) :
    Calls Tryd.prog 26 #[pv, .int .i64 b] w (CopPost w L b) := by
  obtain ⟨p, cap, rfl, hc, hcm⟩ := h.form
  have HP := Lib.hid h
  obtain ⟨n, hn⟩ : ∃ n, n = L.length := ⟨_, rfl⟩
  rw [← hn] at hl hc ⊢
  have HN := Lib.hid hn
  clear h hn hc hcm
  go_enter Tryd.func26, Tryd.ntmps26
  go_wp2_with fail
  go_loopw [5, 6] (fun v i wr => ∃ j : Nat, i = .int .i64 j ∧ j ≤ n ∧ CopAt w L b j v wr) (fun _ i _ => n - (intOf i).toNat)
  case atStart => exact ⟨0, rfl, Nat.zero_le _, World.ownsRow_nil _ _ _ _, Fr.refl _ _, by simp [Value.ownBlock]⟩
  case round =>
    obtain ⟨j, rfl, hj, hA⟩ := hrel
    obtain ⟨wi, rfl⟩ : ∃ wi : World, wi = wr := ⟨_, rfl⟩
    by_cases hlt : j < n
    · by_cases hb : (j : Int) = b
      · have hbb : ((j : Int) != b) = false := by simpa using hb
        have HA := Lib.hid (show CopAt w L b (j + 1) _ wi from by unfold CopAt at hA ⊢; rw [cpy, if_pos hb]; exact hA)
        clear hA hb
        go_wp2
        go_roundw
        case rel => exact ⟨j + 1, by go_num, by omega, HA.out⟩
        case measure => simp [intOf]; omega
      · have hbb : ((j : Int) != b) = true := by simpa using hb
        obtain ⟨g, o, cap', he, _, _, hcell⟩ := HP.out.pos (by have := HN.out; omega)
        rw [← HN.out] at he
        cases he
        have hjl : j < L.length := by have := HN.out; omega
        obtain ⟨x, hx⟩ : ∃ x, L.getD j 0 = x := ⟨_, rfl⟩
        have c0 : w.cell? ⟨g, o + j, none⟩ = some (.int .i64 x) := hcell j _ (by simp [ints, hjl]; rw [← hx]; simp [List.getD_eq_getElem?_getD, hjl])
        have d0 := (hA.2.1.cell (World.block_lt_of_cell? w _ c0) (by simp)).trans c0
        have hcl := cpy_len L b j
        have HA := Lib.hid (And.intro hA (And.intro hb hx))
        have hown := hA.1
        have j0 : (0 : Int) ≤ (j : Int) := by omega
        have j1 : (j : Int) < (n : Int) := by omega
        clear hcell c0 hx hA hb hjl
        go_wp2_with (at_builtin; go_must (refine wpList_app _ rfl _ _ 22 rfl 3 (.int .i64 0) 1 8 Tryd.underlying22 infoI rfl (by decide) _ _ _ rfl (hown.alloc _) ⟨wi.heap.size, 0, none⟩ 1 1 [.int .i64 x] rfl rfl (new_one _ _ _ _ rfl) (by simp [Value.oneCell']) (by unfold maxLen; omega) (by omega) ?_); intro v1 w3 happ; have HAP := Lib.hid happ; clear happ)
        go_roundw
        case rel => exact ⟨j + 1, by go_num, by omega, HA.out.1.app HA.out.2.1 (by rw [HA.out.2.2]; exact HAP.out)⟩
        case measure => simp [intOf]; omega
    · obtain rfl : j = n := by omega
      have HA := Lib.hid hA
      clear hA
      go_wp2
      go_ret
      have := HA.out
      rw [HN.out] at this
      exact ⟨_, rfl, this.1, this.2.1, this.2.2⟩
end Go.Proofs.YtiimmndhinoaiaaDoor
