/-
  Script: loads and stores of whole steps (five cells, a block of their own) as one step.
-/
import Derived.Test.YtbpgpjibljgiiaaGreatDoorRowA
import Derived.Laws.ResultCell
namespace Go.Proofs.YtbpgpjibljgiiaaGreatDoor
open Go.RowKit
set_option linter.unusedVariables false
set_option linter.unusedSimpArgs false
def layS (W : World) (g : Nat) (v0 v1 v2 v3 v4 : Value) : World := W.setCells g 0 [v0, v1, v2, v3, v4]
def st? (w : World) (g : Nat) : Option Value :=
  match w.cell? ⟨g, 0, none⟩, w.cell? ⟨g, 1, none⟩, w.cell? ⟨g, 2, none⟩, w.cell? ⟨g, 3, none⟩, w.cell? ⟨g, 4, none⟩ with
  | some a, some b, some c, some d, some e => some (.agg #[a, b, c, d, e])
  | _, _, _, _, _ => none
def can5 (w : World) (g : Nat) : Bool := (List.range 5).all fun j => (w.cell? ⟨g, 0 + j, none⟩).isSome && !(w.frozen? ⟨g, 0 + j, none⟩)
def loadSt (a : Addr) : Sem Value := loadVar 64 a
def loadSt' (a : Addr) : Sem Value := loadVar 64 a
def storeSt (a : Addr) (v : Value) : Sem Unit := storeVar 64 a v
def storeSt' (a : Addr) (v : Value) : Sem Unit := storeVar 64 a v
theorem loadVar44 (a : Addr) : loadVar 64 a = loadSt a := rfl
theorem storeVar44 (a : Addr) (v : Value) : storeVar 64 a v = storeSt a v := rfl
theorem info44 : (Tryz.prog.info? 64).map (·.size) = some 5 := by kernel_rfl
set_option maxRecDepth 100000 in
theorem run_loadSt (w : World) (g : Nat) : (loadSt ⟨g, 0, none⟩).run Tryz.prog w = match st? w g with | some v => .ok v w | none => (loadSt' ⟨g, 0, none⟩).run Tryz.prog w := by
  cases h : st? w g with
  | none => rfl
  | some v =>
    unfold st? at h
    split at h
    · rename_i a0 a1 a2 a3 a4 h0 h1 h2 h3 h4
      obtain rfl := Option.some.inj h
      refine run_loadVar_mid (P := Tryz.prog) w g 0 64 [a0, a1, a2, a3, a4] _ (fun j v hv => ?_) Tryz.underlying64 rfl info44
      match j, hv with
      | 0, hv => simp at hv; subst hv; exact h0
      | 1, hv => simp at hv; subst hv; exact h1
      | 2, hv => simp at hv; subst hv; exact h2
      | 3, hv => simp at hv; subst hv; exact h3
      | 4, hv => simp at hv; subst hv; exact h4
      | j + 5, hv => simp at hv
    · cases h
set_option maxRecDepth 100000 in
theorem run_storeSt (w : World) (g : Nat) (v0 v1 v2 v3 v4 : Value) : (storeSt ⟨g, 0, none⟩ (.agg #[v0, v1, v2, v3, v4])).run Tryz.prog w = bif can5 w g && (v0.oneCell' && v1.oneCell' && v2.oneCell' && v3.oneCell' && v4.oneCell') then .ok () (layS w g v0 v1 v2 v3 v4) else (storeSt' ⟨g, 0, none⟩ (.agg #[v0, v1, v2, v3, v4])).run Tryz.prog w := by
  cases h : can5 w g && (v0.oneCell' && v1.oneCell' && v2.oneCell' && v3.oneCell' && v4.oneCell') with
  | false => rfl
  | true =>
    rw [Bool.and_eq_true] at h
    have ht : w.there g 0 5 := fun j hj => by
      have := List.all_eq_true.1 h.1 j (List.mem_range.2 hj)
      simpa using this
    have h2 := h.2
    simp only [Bool.and_eq_true] at h2
    exact run_storeVar_mid (P := Tryz.prog) w g 0 64 #[v0, v1, v2, v3, v4] ht info44 (by simp [h2])
attribute [go_sem ↓] loadVar44 storeVar44
attribute [go_sem] run_loadSt run_storeSt
theorem Blk.lay {W : World} {g : Nat} {t : TypeId} {a0 a1 a2 a3 a4 : Value} (h : Blk W g #[a0, a1, a2, a3, a4] t) (v0 v1 v2 v3 v4 : Value) : Blk (layS W g v0 v1 v2 v3 v4) g #[v0, v1, v2, v3, v4] t := by
  exact (((((h.set 0 v0).set 1 v1).set 2 v2).set 3 v3).set 4 v4)
theorem Fr.lay {S : List Nat} {a W : World} (h : Fr S a W) (g : Nat) (v0 v1 v2 v3 v4 : Value) (hp : g ∈ S ∨ a.heap.size ≤ g) : Fr S a (layS W g v0 v1 v2 v3 v4) :=
  ((((h.setCell ⟨g, 0, none⟩ v0 hp).setCell ⟨g, 1, none⟩ v1 hp).setCell ⟨g, 2, none⟩ v2 hp).setCell ⟨g, 3, none⟩ v3 hp).setCell ⟨g, 4, none⟩ v4 hp
theorem Blk.st {W : World} {g : Nat} {t : TypeId} {a0 a1 a2 a3 a4 : Value} (h : Blk W g #[a0, a1, a2, a3, a4] t) : st? W g = some (.agg #[a0, a1, a2, a3, a4]) := by
  unfold st?
  rw [h.at 0 (v := a0) rfl, h.at 1 (v := a1) rfl, h.at 2 (v := a2) rfl, h.at 3 (v := a3) rfl, h.at 4 (v := a4) rfl]
theorem Blk.can5 {W : World} {g : Nat} {t : TypeId} {a0 a1 a2 a3 a4 : Value} (h : Blk W g #[a0, a1, a2, a3, a4] t) : can5 W g = true := by
  refine List.all_eq_true.2 fun j hj => ?_
  have hj := List.mem_range.1 hj
  have hc : j = 0 ∨ j = 1 ∨ j = 2 ∨ j = 3 ∨ j = 4 := by omega
  rcases hc with rfl | rfl | rfl | rfl | rfl
  · rw [h.at (0 + 0) (v := a0) rfl, h.free]; rfl
  · rw [h.at (0 + 1) (v := a1) rfl, h.free]; rfl
  · rw [h.at (0 + 2) (v := a2) rfl, h.free]; rfl
  · rw [h.at (0 + 3) (v := a3) rfl, h.free]; rfl
  · rw [h.at (0 + 4) (v := a4) rfl, h.free]; rfl
theorem size_layS (W : World) (g : Nat) (v0 v1 v2 v3 v4 : Value) : (layS W g v0 v1 v2 v3 v4).heap.size = W.heap.size := by simp [layS, World.setCells]
theorem loadVar_st (w : World) (g : Nat) (v : Value) (h : st? w g = some v) : (loadVar 64 ⟨g, 0, none⟩).run Tryz.prog w = .ok v w := by
  rw [loadVar44, run_loadSt, h]
theorem results_st {fn : Func} {p u : Tmp} (h : fn.results = #[.cell p 64, .tmp u]) (tmps : Array Value) (w : World) (g : Nat) (v x : Value) (hp : tmps.getD p undef = .pointer (some ⟨g, 0, none⟩)) (hu : tmps.getD u undef = x) (hv : st? w g = some v) :
    (results fn tmps).run Tryz.prog w = .ok (.tuple #[v, x]) w := by
  rw [results_cell_tmp h, hp, hu]
  simp [asAddr, loadVar_st w g v hv, Result.andThen]
end Go.Proofs.YtbpgpjibljgiiaaGreatDoor
