/-
  The document's ring: copied. Printed by genQr.py.
-/
import Derived.Test.YtiimmndhinoaiaaDoorRefB
import Derived.Test.YtiimmndhinoaiaaDoorRgP
namespace Go.Proofs.YtiimmndhinoaiaaDoor
open Go.RowKit Go.Shelf ring
set_option linter.unusedVariables false
attribute [local go_sem] Oper.semAt_some
namespace Qu
set_option maxRecDepth 100000 in
set_option maxHeartbeats 1000000 in
theorem copied_any (w : World) (pv : Value) (L : List Int) (b : Int) (h : RdF w pv L.length 1 (ints L)) (hl : L.length ≤ 1048576) :
    Calls Tryd.prog 93 #[pv, .int .i64 b] w (CopPost w L b) := by
  obtain ⟨p, cap, rfl, hc, hcm⟩ := h.form
  have HP := Lib.hid h
  obtain ⟨n, hn⟩ : ∃ n, n = L.length := ⟨_, rfl⟩
  rw [← hn] at hl hc ⊢
  have HN := Lib.hid hn
  clear h hn hc hcm
  go_enter Tryd.func93, Tryd.ntmps93
  go_wp2_with fail
  go_loopw [5, 6] (fun v i wr => ∃ j : Nat, i = .int .i64 j ∧ j ≤ n ∧ CopAt w L b j v wr) (fun _ i _ => n - (intOf i).toNat)
  case atStart => exact ⟨0, rfl, Nat.zero_le _, World.ownsRow_nil _ _ _ _, Fr.refl _ _, by simp [Value.ownBlock]⟩
  case round =>
    obtain ⟨j, rfl, hj, hA⟩ := hrel
    obtain ⟨wi, rfl⟩ : ∃ wi : World, wi = wr := ⟨_, rfl⟩
    by_cases hlt : j < n
    · by_cases hb : (j : Int) = b
      · have hbb : ((j : Int) != b) = false := by simpa using hb
        have HA := Lib.hid (show CopAt w L b (j + 1) _ wi from by unfold CopAt at hA ⊢; rw [cpy, if_pos hb]; exact hA)
        clear hA hb
        go_wp2
        go_roundw
        case rel => exact ⟨j + 1, by go_num, by omega, HA.out⟩
        case measure => simp [intOf]; omega
      · have hbb : ((j : Int) != b) = true := by simpa using hb
        obtain ⟨g, o, cap', he, _, _, hcell⟩ := HP.out.pos (by have := HN.out; omega)
        rw [← HN.out] at he
        cases he
        have hjl : j < L.length := by have := HN.out; omega
        obtain ⟨x, hx⟩ : ∃ x, L.getD j 0 = x := ⟨_, rfl⟩
        have c0 : w.cell? ⟨g, o + j, none⟩ = some (.int .i64 x) := hcell j _ (by simp [ints, hjl]; rw [← hx]; simp [List.getD_eq_getElem?_getD, hjl])
        have d0 := (hA.2.1.cell (World.block_lt_of_cell? w _ c0) (by simp)).trans c0
        have hcl := cpy_len L b j
        have HA := Lib.hid (And.intro hA (And.intro hb hx))
        have hown := hA.1
        have j0 : (0 : Int) ≤ (j : Int) := by omega
        have j1 : (j : Int) < (n : Int) := by omega
        clear hcell c0 hx hA hb hjl
        go_wp2_with (at_builtin; go_must (refine wpList_app _ rfl _ _ 22 rfl 3 (.int .i64 0) 1 8 Tryd.underlying22 infoI rfl (by decide) _ _ _ rfl (hown.alloc _) ⟨wi.heap.size, 0, none⟩ 1 1 [.int .i64 x] rfl rfl (new_one _ _ _ _ rfl) (by simp [Value.oneCell']) (by unfold maxLen; omega) (by omega) ?_); intro v1 w3 happ; have HAP := Lib.hid happ; clear happ)
        go_roundw
        case rel => exact ⟨j + 1, by go_num, by omega, HA.out.1.app HA.out.2.1 (by rw [HA.out.2.2]; exact HAP.out)⟩
        case measure => simp [intOf]; omega
    · obtain rfl : j = n := by omega
      have HA := Lib.hid hA
      clear hA
      go_wp2
      go_ret
      have := HA.out
      rw [HN.out] at this
      exact ⟨_, rfl, this.1, this.2.1, this.2.2⟩
end Qu
end Go.Proofs.YtiimmndhinoaiaaDoor
