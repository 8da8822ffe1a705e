/-
  All of a line of texts, whatever is under way.
-/
import Derived.Test.YtiimmndhinoaiaaDoorLxC
namespace Go.Proofs.YtiimmndhinoaiaaDoor
open Go.RowKit Go.Shelf
set_option linter.unusedVariables false
attribute [local go_sem] Oper.semAt_some
set_option maxRecDepth 100000 in
theorem all_all (w : World) (b : Nat) (v : Value) (L : List ByteArray) (most : Nat) (B : Bk) (h : LnS.LineAt w b v L most B) (h64 : L.length ≤ 64) :
    Calls Tryd.prog 12 #[.pointer (some ⟨b, 0, none⟩)] w (LnS.AllPost w L) := by
  have hblt := h.lt
  have n1 : b ≠ w.heap.size := Nat.ne_of_lt hblt
  obtain ⟨c0, _⟩ := h.books
  have hrd : RdF w v L.length 1 (strs L) := RdF.of_own (by decide) h.2 (by unfold maxLen; omega)
  obtain ⟨p, cap, rfl, hc, hcm⟩ := hrd.form
  have hrd2 : RdF (w.alloc (.cells #[.slice none 0 0] 24)).drew (.slice p L.length cap) L.length 1 (strs L) := hrd.grow ((Fr.refl _ _).alloc _).drew
  have hN : ∀ v1 w3, Appended (w.alloc (.cells #[.slice none 0 0] 24)).drew 9 1 (.slice none 0 0) L.length (strs L) v1 w3 →
      (w3.cell? ⟨w.heap.size, 0, none⟩ = some (.slice none 0 0) ∧ w3.frozen? ⟨w.heap.size, 0, none⟩ = false) ∧
      LnS.AllPost w L (.returned (.func (.func 32) #[] #[.pointer (some ⟨w.heap.size, 0, none⟩)])) (w3.setCell ⟨w.heap.size, 0, none⟩ v1) := by
    intro v1 w3 hp
    have F := hp.fr
    have kb := F.blk (Blk.new w #[.slice none 0 0] 24).drew (by simp [Value.ownBlock])
    have hn1 : w.heap.size ∉ v1.ownBlock.toList := own_notin hp.own kb (by decide)
    refine ⟨⟨kb.at 0 rfl, kb.free 0⟩, w.heap.size, v1, rfl, ⟨kb.set 0 v1, ?_⟩, Nat.le_refl _, ?_, ?_⟩
    · have := own_fr hp.own ((Fr.refl [w.heap.size] w3).setCell ⟨w.heap.size, 0, none⟩ v1 (.inl (by simp))) (fun g hg hm => hn1 (by simp at hm; subst hm; simp [hg]))
      simpa using this
    · intro g hg
      rcases hp.place with h | h
      · rw [h] at hg; simp [Value.ownBlock] at hg
      · rw [h] at hg; cases hg; simp
    · have : Fr [] w w3 := ((((Fr.refl [] w).alloc (.cells #[.slice none 0 0] 24)).drew).trans F (by simp [Value.ownBlock]))
      exact this.setCell _ _ (.inr (Nat.le_refl _))
  have HN := Lib.hid hN
  have HR := Lib.hid (And.intro hrd2 h64)
  clear hN h hrd hrd2 hc hcm
  generalize L.length = m at *
  go_enter Tryd.func12, Tryd.ntmps12
  go_wp2_with fail
  refine LnS.region_tail 5 (by kernel_rfl) (by kernel_rfl) ?_
  simp only [List.take_succ_cons, List.take_zero, List.drop_succ_cons, List.drop_zero]
  iterate 5 still_step
  refine wpStill_nil ?_
  go_wp2_with (at_builtin; go_must (refine wpList_appF _ rfl _ _ 24 rfl 9 (.string ⟨#[]⟩) 1 16 Tryd.underlying24 LnS.info3 rfl (by decide) _ 0 [] rfl (World.ownsRow_nil _ _ _ _) _ m (strs L) rfl HR.out.1 (strs_one L) (by have := HR.out.2; unfold maxLen; omega) (by have := HR.out.2; omega) ?_); intro v1 w3 happ; rw [Nat.zero_add, List.nil_append] at happ; obtain ⟨pp, cc, rfl⟩ := own_form happ.own; obtain ⟨⟨e1, e2⟩, e5⟩ := HN.out _ _ happ; have E5 := Lib.hid e5; clear e5 happ)
  go_ret
  exact E5.out
end Go.Proofs.YtiimmndhinoaiaaDoor
