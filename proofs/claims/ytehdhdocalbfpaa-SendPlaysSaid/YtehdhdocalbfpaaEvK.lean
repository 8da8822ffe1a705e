/-
  Loads and stores of whole events, as one step of the walk.
-/
import Derived.Test.YtehdhdocalbfpaaEvA
import Derived.Test.YtehdhdocalbfpaaRows
import Derived.Deep.MidRow
import Derived.Laws.ResultCell
namespace Go.Proofs.Ytehdhdocalbfpaa
open Go.RowKit
set_option linter.unusedVariables false

/-- An event as a value. -/
def Ev.val (e : Ev) : Value := .agg #[.int .u8 e.k, .int .u32 e.o, .int .u32 e.f, .int .u32 e.n, .int .i32 e.x, .int .i32 e.y, .int .u32 e.c, .float .f64 e.s]
theorem Ev.val_cells (e : Ev) : e.val.cells = e.cells.toArray := rfl
theorem Ev.val_list (e : Ev) : e.val = .agg e.cells.toArray := rfl
theorem Ev.val_inj {a b : Ev} (h : a.val = b.val) : a = b := by
  cases a; cases b; simp [Ev.val] at h; simp [h]
theorem Ev.val_agg {x : Ev} {cs : Array Value} (h : x.val = .agg cs) : cs = x.cells.toArray := by
  rw [Ev.val_list] at h; exact (Value.agg.inj h).symm
/-- The event at a place. -/
def ev? (w : World) (g o : Nat) : Option Value :=
  match w.cell? ⟨g, o, none⟩, w.cell? ⟨g, o + 1, none⟩, w.cell? ⟨g, o + 2, none⟩, w.cell? ⟨g, o + 3, none⟩, w.cell? ⟨g, o + 4, none⟩, w.cell? ⟨g, o + 5, none⟩, w.cell? ⟨g, o + 6, none⟩, w.cell? ⟨g, o + 7, none⟩ with
  | some a, some b, some c, some d, some e, some f, some g, some h => some (.agg #[a, b, c, d, e, f, g, h])
  | _, _, _, _, _, _, _, _ => none
/-- May an event be laid there? -/
def can8 (w : World) (g o : Nat) : Bool := (List.range 8).all fun j => (w.cell? ⟨g, o + j, none⟩).isSome && !(w.frozen? ⟨g, o + j, none⟩)
def loadEv (a : Addr) : Sem Value := loadVar 56 a
def loadEv' (a : Addr) : Sem Value := loadVar 56 a
def storeEv (a : Addr) (v : Value) : Sem Unit := storeVar 56 a v
def storeEv' (a : Addr) (v : Value) : Sem Unit := storeVar 56 a v
theorem loadVar56 (a : Addr) : loadVar 56 a = loadEv a := rfl
theorem storeVar56 (a : Addr) (v : Value) : storeVar 56 a v = storeEv a v := rfl
theorem info56 : (Try.prog.info? 56).map (·.size) = some 8 := by kernel_rfl
set_option maxRecDepth 100000 in
theorem run_loadEv (w : World) (g o : Nat) : (loadEv ⟨g, o, none⟩).run Try.prog w = match ev? w g o with | some v => .ok v w | none => (loadEv' ⟨g, o, none⟩).run Try.prog w := by
  cases h : ev? w g o with
  | none => rfl
  | some v =>
    unfold ev? at h
    split at h
    · rename_i a0 a1 a2 a3 a4 a5 a6 a7 h0 h1 h2 h3 h4 h5 h6 h7
      obtain rfl := Option.some.inj h
      refine run_loadVar_mid (P := Try.prog) w g o 56 [a0, a1, a2, a3, a4, a5, a6, a7] _ (fun j v hv => ?_) Try.underlying56 rfl info56
      match j, hv with
      | 0, hv => simp at hv; subst hv; exact h0
      | 1, hv => simp at hv; subst hv; exact h1
      | 2, hv => simp at hv; subst hv; exact h2
      | 3, hv => simp at hv; subst hv; exact h3
      | 4, hv => simp at hv; subst hv; exact h4
      | 5, hv => simp at hv; subst hv; exact h5
      | 6, hv => simp at hv; subst hv; exact h6
      | 7, hv => simp at hv; subst hv; exact h7
      | j + 8, hv => simp at hv
    · cases h
set_option maxRecDepth 100000 in
theorem run_storeEv (w : World) (g o : Nat) (e : Ev) : (storeEv ⟨g, o, none⟩ e.val).run Try.prog w = bif can8 w g o then .ok () (layEv w g o e) else (storeEv' ⟨g, o, none⟩ e.val).run Try.prog w := by
  cases h : can8 w g o with
  | false => rfl
  | true =>
    have ht : w.there g o 8 := fun j hj => by
      have := List.all_eq_true.1 h j (List.mem_range.2 hj)
      simpa using this
    have := run_storeVar_mid (P := Try.prog) w g o 56 e.cells.toArray ht info56 (by simp [Ev.cells, Value.oneCell'])
    exact this
attribute [go_sem ↓] loadVar56 storeVar56 Ev.val_cells
attribute [go_sem] run_loadEv run_storeEv

section
variable {W : World} {g : Nat} {t : TypeId} {Cs : List Ev}
theorem Blk.evAt (h : Blk W g (evs Cs).toArray t) {k : Nat} {e : Ev} (hk : Cs[k]? = some e) : ev? W g (k * 8) = some e.val := by
  obtain ⟨h0, h1, h2, h3, h4, h5, h6, h7⟩ := h.ev hk
  unfold ev?
  rw [h0, h1, h2, h3, h4, h5, h6, h7]
  rfl
theorem Blk.can (h : Blk W g (evs Cs).toArray t) {k : Nat} (hk : k < Cs.length) : can8 W g (k * 8) = true := by
  refine List.all_eq_true.2 fun j hj => ?_
  have hj := List.mem_range.1 hj
  have h1 := evs_get Cs k j Cs[k] (List.getElem?_eq_getElem hk) hj
  have h2 : (evs Cs)[k * 8 + j]? = some ((Cs[k].cells)[j]'(by simpa [Ev.cells] using hj)) := by rw [h1, List.getElem?_eq_getElem]
  have h3 := h.at (k * 8 + j) (v := (Cs[k].cells)[j]'(by simpa [Ev.cells] using hj)) (by simpa using h2)
  simp [h3, h.free (k * 8 + j)]
/-- A block of one event. -/
theorem Blk.one {e : Ev} (h : Blk W g e.cells.toArray t) : ev? W g 0 = some e.val := by
  have := Blk.evAt (Cs := [e]) (W := W) (g := g) (t := t) (by simpa [evs] using h) (k := 0) (e := e) rfl
  simpa using this
theorem Blk.oneCan {e : Ev} (h : Blk W g e.cells.toArray t) : can8 W g 0 = true := by
  have := Blk.can (Cs := [e]) (W := W) (g := g) (t := t) (by simpa [evs] using h) (k := 0) (by simp)
  simpa using this
theorem Blk.setOne {e x : Ev} (h : Blk W g e.cells.toArray t) : Blk (layEv W g 0 x) g x.cells.toArray t := by
  have := Blk.setEv (Cs := [e]) (W := W) (g := g) (t := t) (by simpa [evs] using h) (k := 0) (by simp) x
  simpa [evs] using this
theorem cell_layEv (b o : Nat) (e : Ev) (a : Addr) (h : a.block ≠ b) : (layEv W b o e).cell? a = W.cell? a := by
  have hn : ∀ i, (⟨b, i, none⟩ : Addr) ≠ a := fun i hh => h (by rw [← hh])
  unfold layEv
  rw [World.cell?_setCell_other _ _ _ _ (hn _), World.cell?_setCell_other _ _ _ _ (hn _), World.cell?_setCell_other _ _ _ _ (hn _), World.cell?_setCell_other _ _ _ _ (hn _), World.cell?_setCell_other _ _ _ _ (hn _), World.cell?_setCell_other _ _ _ _ (hn _), World.cell?_setCell_other _ _ _ _ (hn _), World.cell?_setCell_other _ _ _ _ (hn _)]
end
theorem cell_layEv' (W : World) (b o : Nat) (e : Ev) (c i : Nat) (h : c ≠ b) : (layEv W b o e).cell? ⟨c, i, none⟩ = W.cell? ⟨c, i, none⟩ := cell_layEv b o e _ h
theorem frozen_layEv (W : World) (b o : Nat) (e : Ev) (a : Addr) : (layEv W b o e).frozen? a = W.frozen? a := by simp [layEv]
theorem size_layEv (W : World) (b o : Nat) (e : Ev) : (layEv W b o e).heap.size = W.heap.size := by simp [layEv]
theorem ev_of {W W' : World} {g o : Nat} (h : ∀ i, W'.cell? ⟨g, i, none⟩ = W.cell? ⟨g, i, none⟩) : ev? W' g o = ev? W g o := by
  unfold ev?; simp only [h]
theorem can_of {W W' : World} {g o : Nat} (h : ∀ i, W'.cell? ⟨g, i, none⟩ = W.cell? ⟨g, i, none⟩) (h2 : ∀ i, W'.frozen? ⟨g, i, none⟩ = W.frozen? ⟨g, i, none⟩) : can8 W' g o = can8 W g o := by
  unfold can8; simp only [h, h2]
theorem ev_layEv (W : World) (b o : Nat) (e : Ev) (c i : Nat) (h : c ≠ b) : ev? (layEv W b o e) c i = ev? W c i := ev_of fun j => cell_layEv' W b o e c j h
theorem can_layEv (W : World) (b o : Nat) (e : Ev) (c i : Nat) (h : c ≠ b) : can8 (layEv W b o e) c i = can8 W c i := can_of (fun j => cell_layEv' W b o e c j h) (fun j => frozen_layEv W b o e _)
theorem ev_drewN (W : World) (n c i : Nat) : ev? (W.drewN n) c i = ev? W c i := rfl
theorem can_drewN (W : World) (n c i : Nat) : can8 (W.drewN n) c i = can8 W c i := rfl
theorem ev_drew (W : World) (c i : Nat) : ev? W.drew c i = ev? W c i := rfl
theorem can_drew (W : World) (c i : Nat) : can8 W.drew c i = can8 W c i := rfl
theorem ev_setCell (W : World) (a : Addr) (v : Value) (c i : Nat) (h : c ≠ a.block) : ev? (W.setCell a v) c i = ev? W c i := ev_of fun j => World.cell?_setCell_other _ _ _ _ (fun hh => h (by rw [hh]))
theorem can_setCell (W : World) (a : Addr) (v : Value) (c i : Nat) (h : c ≠ a.block) : can8 (W.setCell a v) c i = can8 W c i := can_of (fun j => World.cell?_setCell_other _ _ _ _ (fun hh => h (by rw [hh]))) (fun j => by simp)
attribute [go_sem] cell_layEv' frozen_layEv size_layEv ev_layEv can_layEv ev_drewN can_drewN ev_drew can_drew ev_setCell can_setCell
theorem zero_ev : Value.agg #[.int .u8 0, .int .u32 0, .int .u32 0, .int .u32 0, .int .i32 0, .int .i32 0, .int .u32 0, .float .f64 0] = Ev.zero.val := rfl
theorem zero_cells : (#[.int .u8 0, .int .u32 0, .int .u32 0, .int .u32 0, .int .i32 0, .int .i32 0, .int .u32 0, .float .f64 0] : Array Value) = Ev.zero.cells.toArray := rfl

theorem loadVar_ev (w : World) (g o : Nat) (v : Value) (h : ev? w g o = some v) : (loadVar 56 ⟨g, o, none⟩).run Try.prog w = .ok v w := by
  rw [loadVar56, run_loadEv, h]
theorem results_ct {fn : Func} {p u : Tmp} (h : fn.results = #[.cell p 56, .tmp u]) (tmps : Array Value) (w : World) (g o : Nat) (v x : Value) (hp : tmps.getD p undef = .pointer (some ⟨g, o, none⟩)) (hu : tmps.getD u undef = x) (hv : ev? w g o = some v) :
    (results fn tmps).run Try.prog w = .ok (.tuple #[v, x]) w := by
  rw [results_cell_tmp h, hp, hu]
  simp [asAddr, loadVar_ev w g o v hv, Result.andThen]
theorem results_tct {fn : Func} {q p u : Tmp} (h : fn.results = #[.tmp q, .cell p 56, .tmp u]) (tmps : Array Value) (w : World) (g o : Nat) (v x y : Value) (hq : tmps.getD q undef = y) (hp : tmps.getD p undef = .pointer (some ⟨g, o, none⟩)) (hu : tmps.getD u undef = x) (hv : ev? w g o = some v) :
    (results fn tmps).run Try.prog w = .ok (.tuple #[y, v, x]) w := by
  have h0 : (results fn tmps).run Try.prog w = ((asAddr (tmps.getD p undef)).run Try.prog w).andThen fun a w₁ => ((loadVar 56 a).run Try.prog w₁).andThen fun v w₂ => .ok (.tuple #[tmps.getD q undef, v, tmps.getD u undef]) w₂ := by
    simp only [results, h]
    simp [Sem.run_bind, Result.andThen]
  rw [h0, hp, hu, hq]
  simp [asAddr, loadVar_ev w g o v hv, Result.andThen]

end Go.Proofs.Ytehdhdocalbfpaa
