/-
  Pairs in memory: two cells each; loads and stores of whole pairs as one step of the walk.
-/
import Derived.Test.YtiimmndhinoaiaaDoorRdF
import Derived.Test.YtiimmndhinoaiaaDoorRows
import Derived.Test.YtiimmndhinoaiaaDoorKit
import Derived.Deep.MidRow
import Derived.Laws.ResultCell
namespace Go.Proofs.YtiimmndhinoaiaaDoor
open Go.RowKit
set_option linter.unusedVariables false
set_option linter.unusedSimpArgs false

/-- The pair of a number, by its cells. -/
def pcells (x : Int) : List Value := [.int .i64 x, .float .f64 0]
/-- The pair of a number. -/
def pval (x : Int) : Value := .agg #[.int .i64 x, .float .f64 0]
theorem pval_cells (x : Int) : (pval x).cells = (pcells x).toArray := rfl
theorem pval_agg {x : Int} {cs : Array Value} (h : pval x = .agg cs) : cs = (pcells x).toArray := (Value.agg.inj h).symm
theorem pcells_len (x : Int) : (pcells x).length = 2 := rfl
def pls (L : List Int) : List Value := L.flatMap pcells
theorem pls_len (L : List Int) : (pls L).length = L.length * 2 := flatV_len pcells pcells_len L
theorem pls_get (L : List Int) (i j : Nat) (x : Int) (h : L[i]? = some x) (hj : j < 2) : (pls L)[i * 2 + j]? = (pcells x)[j]? := flatV_get pcells pcells_len L i j x h hj
def put2 (l : List Value) (b : Nat) (x : Int) : List Value := (l.set b (.int .i64 x)).set (b + 1) (.float .f64 0)
theorem pls_set (L : List Int) : ∀ (i : Nat) (x : Int), i < L.length → pls (L.set i x) = put2 (pls L) (i * 2) x := by
  induction L with
  | nil => intro i e h; simp at h
  | cons a l ih =>
    intro i x h
    cases i with
    | zero => simp [pls, put2, pcells]
    | succ i =>
      have h1 : pls (a :: l) = pcells a ++ pls l := by simp [pls]
      have h2 : pls ((a :: l).set (i + 1) x) = pcells a ++ pls (l.set i x) := by simp [pls]
      rw [h1, h2, ih i x (by simpa using h), show (i + 1) * 2 = (pcells a).length + i * 2 by rw [pcells_len]; omega]
      unfold put2
      rw [List.set_append_right _ _ (by omega), List.set_append_right _ _ (by omega)]
      simp [Nat.add_assoc]
section
variable {W : World} {g : Nat} {t : TypeId} {Cs : List Int}
theorem Blk.pr (h : Blk W g (pls Cs).toArray t) {k : Nat} {x : Int} (hk : Cs[k]? = some x) :
    W.cell? ⟨g, k * 2, none⟩ = some (.int .i64 x) ∧ W.cell? ⟨g, k * 2 + 1, none⟩ = some (.float .f64 0) := by
  have hg := fun j hj => pls_get Cs k j x hk hj
  refine ⟨h.at (k * 2) ?_, h.at (k * 2 + 1) ?_⟩
  · simpa [pcells] using hg 0 (by omega)
  · simpa [pcells] using hg 1 (by omega)
/-- The world with a pair laid at a cell. -/
def layPr (W : World) (g b : Nat) (x : Int) : World := (W.setCell ⟨g, b, none⟩ (.int .i64 x)).setCell ⟨g, b + 1, none⟩ (.float .f64 0)
theorem Blk.setPr (h : Blk W g (pls Cs).toArray t) {k : Nat} (hk : k < Cs.length) (x : Int) : Blk (layPr W g (k * 2) x) g (pls (Cs.set k x)).toArray t := by
  have h2 := (h.set (k * 2) (.int .i64 x)).set (k * 2 + 1) (.float .f64 0)
  rw [pls_set Cs k x hk]
  simp only [List.setIfInBounds_toArray] at h2
  exact h2
theorem Fr.setPr {S : List Nat} {w W : World} (h : Fr S w W) (b : Nat) (x : Int) (hg : g ∈ S ∨ w.heap.size ≤ g) : Fr S w (layPr W g b x) := (h.setCell _ _ hg).setCell _ _ hg
theorem Blk.otherPr {c : Array Value} {k : Nat} (h : Blk W k c t) (b : Nat) (x : Int) (hk : k ≠ g) : Blk (layPr W g b x) k c t := (h.other ⟨g, b, none⟩ _ hk).other ⟨g, b + 1, none⟩ _ hk
end
/-- The pair at a place. -/
def pr? (w : World) (g o : Nat) : Option Value :=
  match w.cell? ⟨g, o, none⟩, w.cell? ⟨g, o + 1, none⟩ with
  | some a, some b => some (.agg #[a, b])
  | _, _ => none
/-- May a pair be laid there? -/
def can2 (w : World) (g o : Nat) : Bool := (List.range 2).all fun j => (w.cell? ⟨g, o + j, none⟩).isSome && !(w.frozen? ⟨g, o + j, none⟩)
def loadPr (a : Addr) : Sem Value := loadVar 65 a
def loadPr' (a : Addr) : Sem Value := loadVar 65 a
def storePr (a : Addr) (v : Value) : Sem Unit := storeVar 65 a v
def storePr' (a : Addr) (v : Value) : Sem Unit := storeVar 65 a v
theorem loadVar65 (a : Addr) : loadVar 65 a = loadPr a := rfl
theorem storeVar65 (a : Addr) (v : Value) : storeVar 65 a v = storePr a v := rfl
theorem info65 : (Tryd.prog.info? 65).map (·.size) = some 2 := by kernel_rfl
set_option maxRecDepth 100000 in
theorem run_loadPr (w : World) (g o : Nat) : (loadPr ⟨g, o, none⟩).run Tryd.prog w = match pr? w g o with | some v => .ok v w | none => (loadPr' ⟨g, o, none⟩).run Tryd.prog w := by
  cases h : pr? w g o with
  | none => rfl
  | some v =>
    unfold pr? at h
    split at h
    · rename_i a0 a1 h0 h1
      obtain rfl := Option.some.inj h
      refine run_loadVar_mid (P := Tryd.prog) w g o 65 [a0, a1] _ (fun j v hv => ?_) Tryd.underlying65 rfl info65
      match j, hv with
      | 0, hv => simp at hv; subst hv; exact h0
      | 1, hv => simp at hv; subst hv; exact h1
      | j + 2, hv => simp at hv
    · cases h
set_option maxRecDepth 100000 in
theorem run_storePr (w : World) (g o : Nat) (x : Int) : (storePr ⟨g, o, none⟩ (pval x)).run Tryd.prog w = bif can2 w g o then .ok () (layPr w g o x) else (storePr' ⟨g, o, none⟩ (pval x)).run Tryd.prog w := by
  cases h : can2 w g o with
  | false => rfl
  | true =>
    have ht : w.there g o 2 := fun j hj => by
      have := List.all_eq_true.1 h j (List.mem_range.2 hj)
      simpa using this
    have := run_storeVar_mid (P := Tryd.prog) w g o 65 (pcells x).toArray ht info65 (by simp [pcells, Value.oneCell'])
    exact this
attribute [go_sem ↓] loadVar65 storeVar65 pval_cells
attribute [go_sem] run_loadPr run_storePr
section
variable {W : World} {g : Nat} {t : TypeId} {Cs : List Int}
theorem Blk.prAt (h : Blk W g (pls Cs).toArray t) {k : Nat} {x : Int} (hk : Cs[k]? = some x) : pr? W g (k * 2) = some (pval x) := by
  obtain ⟨h0, h1⟩ := h.pr hk
  unfold pr?
  rw [h0, h1]
  rfl
theorem Blk.prCan (h : Blk W g (pls Cs).toArray t) {k : Nat} (hk : k < Cs.length) : can2 W g (k * 2) = true := by
  refine List.all_eq_true.2 fun j hj => ?_
  have hj := List.mem_range.1 hj
  have h1 := pls_get Cs k j Cs[k] (List.getElem?_eq_getElem hk) hj
  have h2 : (pls Cs)[k * 2 + j]? = some ((pcells Cs[k])[j]'(by simpa [pcells] using hj)) := by rw [h1, List.getElem?_eq_getElem]
  have h3 := h.at (k * 2 + j) (v := (pcells Cs[k])[j]'(by simpa [pcells] using hj)) (by simpa using h2)
  simp [h3, h.free (k * 2 + j)]
/-- A block of one pair. -/
theorem Blk.prOne {x : Int} (h : Blk W g (pcells x).toArray t) : pr? W g 0 = some (pval x) := by
  have := Blk.prAt (Cs := [x]) (W := W) (g := g) (t := t) (by simpa [pls] using h) (k := 0) (x := x) rfl
  simpa using this
theorem Blk.prOneCan {x : Int} (h : Blk W g (pcells x).toArray t) : can2 W g 0 = true := by
  have := Blk.prCan (Cs := [x]) (W := W) (g := g) (t := t) (by simpa [pls] using h) (k := 0) (by simp)
  simpa using this
theorem Blk.setPrOne {y x : Int} (h : Blk W g (pcells y).toArray t) : Blk (layPr W g 0 x) g (pcells x).toArray t := by
  have := Blk.setPr (Cs := [y]) (W := W) (g := g) (t := t) (by simpa [pls] using h) (k := 0) (by simp) x
  simpa [pls] using this
theorem cell_layPr (b o : Nat) (x : Int) (a : Addr) (h : a.block ≠ b) : (layPr W b o x).cell? a = W.cell? a := by
  have hn : ∀ i, (⟨b, i, none⟩ : Addr) ≠ a := fun i hh => h (by rw [← hh])
  unfold layPr
  rw [World.cell?_setCell_other _ _ _ _ (hn _), World.cell?_setCell_other _ _ _ _ (hn _)]
end
theorem cell_layPr' (W : World) (b o : Nat) (x : Int) (c i : Nat) (h : c ≠ b) : (layPr W b o x).cell? ⟨c, i, none⟩ = W.cell? ⟨c, i, none⟩ := cell_layPr b o x _ h
theorem frozen_layPr (W : World) (b o : Nat) (x : Int) (a : Addr) : (layPr W b o x).frozen? a = W.frozen? a := by simp [layPr]
theorem size_layPr (W : World) (b o : Nat) (x : Int) : (layPr W b o x).heap.size = W.heap.size := by simp [layPr]
theorem pr_of {W W' : World} {g o : Nat} (h : ∀ i, W'.cell? ⟨g, i, none⟩ = W.cell? ⟨g, i, none⟩) : pr? W' g o = pr? W g o := by
  unfold pr?; simp only [h]
theorem can2_of {W W' : World} {g o : Nat} (h : ∀ i, W'.cell? ⟨g, i, none⟩ = W.cell? ⟨g, i, none⟩) (h2 : ∀ i, W'.frozen? ⟨g, i, none⟩ = W.frozen? ⟨g, i, none⟩) : can2 W' g o = can2 W g o := by
  unfold can2; simp only [h, h2]
theorem pr_layPr (W : World) (b o : Nat) (x : Int) (c i : Nat) (h : c ≠ b) : pr? (layPr W b o x) c i = pr? W c i := pr_of fun j => cell_layPr' W b o x c j h
theorem can_layPr (W : World) (b o : Nat) (x : Int) (c i : Nat) (h : c ≠ b) : can2 (layPr W b o x) c i = can2 W c i := can2_of (fun j => cell_layPr' W b o x c j h) (fun j => frozen_layPr W b o x _)
theorem pr_drewN (W : World) (n c i : Nat) : pr? (W.drewN n) c i = pr? W c i := rfl
theorem can2_drewN (W : World) (n c i : Nat) : can2 (W.drewN n) c i = can2 W c i := rfl
theorem pr_drew (W : World) (c i : Nat) : pr? W.drew c i = pr? W c i := rfl
theorem can2_drew (W : World) (c i : Nat) : can2 W.drew c i = can2 W c i := rfl
theorem pr_setCell (W : World) (a : Addr) (v : Value) (c i : Nat) (h : c ≠ a.block) : pr? (W.setCell a v) c i = pr? W c i := pr_of fun j => World.cell?_setCell_other _ _ _ _ (fun hh => h (by rw [hh]))
theorem can2_setCell (W : World) (a : Addr) (v : Value) (c i : Nat) (h : c ≠ a.block) : can2 (W.setCell a v) c i = can2 W c i := can2_of (fun j => World.cell?_setCell_other _ _ _ _ (fun hh => h (by rw [hh]))) (fun j => by simp)
attribute [go_sem] cell_layPr' frozen_layPr size_layPr pr_layPr can_layPr pr_drewN can2_drewN pr_drew can2_drew pr_setCell can2_setCell
theorem zero_pr : Value.agg #[.int .i64 0, .float .f64 0] = pval 0 := rfl
theorem zero_pcells : (#[.int .i64 0, .float .f64 0] : Array Value) = (pcells 0).toArray := rfl
theorem loadVar_pr (w : World) (g o : Nat) (v : Value) (h : pr? w g o = some v) : (loadVar 65 ⟨g, o, none⟩).run Tryd.prog w = .ok v w := by
  rw [loadVar65, run_loadPr, h]
theorem results_pt {fn : Func} {p u : Tmp} (h : fn.results = #[.cell p 65, .tmp u]) (tmps : Array Value) (w : World) (g o : Nat) (v x : Value) (hp : tmps.getD p undef = .pointer (some ⟨g, o, none⟩)) (hu : tmps.getD u undef = x) (hv : pr? w g o = some v) :
    (results fn tmps).run Tryd.prog w = .ok (.tuple #[v, x]) w := by
  rw [results_cell_tmp h, hp, hu]
  simp [asAddr, loadVar_pr w g o v hv, Result.andThen]
end Go.Proofs.YtiimmndhinoaiaaDoor
