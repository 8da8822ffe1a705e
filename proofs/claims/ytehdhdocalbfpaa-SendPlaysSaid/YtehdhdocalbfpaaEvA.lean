/-
  Events in memory: eight cells each; plain laws.
-/
import Derived.Test.YtehdhdocalbfpaaRead
namespace Go.Proofs.Ytehdhdocalbfpaa
open Go.RowKit
set_option linter.unusedVariables false

/-- An event's parts; the speed by its bits. -/
structure Ev where
  k : Int
  o : Int
  f : Int
  n : Int
  x : Int
  y : Int
  c : Int
  s : Nat
  deriving DecidableEq
def Ev.cells (e : Ev) : List Value := [.int .u8 e.k, .int .u32 e.o, .int .u32 e.f, .int .u32 e.n, .int .i32 e.x, .int .i32 e.y, .int .u32 e.c, .float .f64 e.s]
def Ev.zero : Ev := ⟨0, 0, 0, 0, 0, 0, 0, 0⟩
def evs (L : List Ev) : List Value := L.flatMap Ev.cells
theorem evs_len (L : List Ev) : (evs L).length = L.length * 8 := by
  induction L with
  | nil => rfl
  | cons a l ih => rw [evs, List.flatMap_cons, List.length_append, ← evs, ih, List.length_cons]; simp [Ev.cells]; omega
theorem evs_get (L : List Ev) : ∀ (i j : Nat) (e : Ev), L[i]? = some e → j < 8 → (evs L)[i * 8 + j]? = e.cells[j]? := by
  induction L with
  | nil => intro i j e h; simp at h
  | cons a l ih =>
    intro i j e h hj
    rw [evs, List.flatMap_cons, ← evs]
    cases i with
    | zero =>
      have : a = e := by simpa using h
      subst this
      rw [Nat.zero_mul, Nat.zero_add, List.getElem?_append_left (by simpa [Ev.cells] using hj)]
    | succ i =>
      have h' : l[i]? = some e := by simpa using h
      rw [List.getElem?_append_right (by simp [Ev.cells]; omega), show (i + 1) * 8 + j - a.cells.length = i * 8 + j by simp [Ev.cells]; omega]
      exact ih i j e h' hj
/-- Eight cells written over. -/
def put8 (l : List Value) (b : Nat) (e : Ev) : List Value :=
  (((((((l.set b (.int .u8 e.k)).set (b + 1) (.int .u32 e.o)).set (b + 2) (.int .u32 e.f)).set (b + 3) (.int .u32 e.n)).set (b + 4) (.int .i32 e.x)).set (b + 5) (.int .i32 e.y)).set (b + 6) (.int .u32 e.c)).set (b + 7) (.float .f64 e.s)
theorem put8_right (l r : List Value) (e : Ev) (b : Nat) : put8 (l ++ r) (l.length + b) e = l ++ put8 r b e := by
  unfold put8
  simp [List.set_append_right, Nat.add_assoc]
theorem evs_set (L : List Ev) : ∀ (i : Nat) (e : Ev), i < L.length → evs (L.set i e) = put8 (evs L) (i * 8) e := by
  induction L with
  | nil => intro i e h; simp at h
  | cons a l ih =>
    intro i e h
    cases i with
    | zero =>
      show evs (e :: l) = put8 (evs (a :: l)) (0 * 8) e
      simp [evs, List.flatMap_cons, put8, Ev.cells]
    | succ i =>
      have h1 : evs (a :: l) = a.cells ++ evs l := by simp [evs, List.flatMap_cons]
      have h2 : evs ((a :: l).set (i + 1) e) = a.cells ++ evs (l.set i e) := by simp [evs, List.flatMap_cons]
      rw [h1, h2, ih i e (by simpa using h), show (i + 1) * 8 = a.cells.length + i * 8 by simp [Ev.cells]; omega, put8_right]

section
variable {W : World} {g : Nat} {t : TypeId} {Cs : List Ev}
/-- The eight cells of the event at k. -/
theorem Blk.ev (h : Blk W g (evs Cs).toArray t) {k : Nat} {e : Ev} (hk : Cs[k]? = some e) :
    W.cell? ⟨g, k * 8, none⟩ = some (.int .u8 e.k) ∧ W.cell? ⟨g, k * 8 + 1, none⟩ = some (.int .u32 e.o) ∧ W.cell? ⟨g, k * 8 + 2, none⟩ = some (.int .u32 e.f) ∧ W.cell? ⟨g, k * 8 + 3, none⟩ = some (.int .u32 e.n) ∧
      W.cell? ⟨g, k * 8 + 4, none⟩ = some (.int .i32 e.x) ∧ W.cell? ⟨g, k * 8 + 5, none⟩ = some (.int .i32 e.y) ∧ W.cell? ⟨g, k * 8 + 6, none⟩ = some (.int .u32 e.c) ∧ W.cell? ⟨g, k * 8 + 7, none⟩ = some (.float .f64 e.s) := by
  have hg := fun j hj => evs_get Cs k j e hk hj
  refine ⟨h.at (k * 8) ?_, h.at (k * 8 + 1) ?_, h.at (k * 8 + 2) ?_, h.at (k * 8 + 3) ?_, h.at (k * 8 + 4) ?_, h.at (k * 8 + 5) ?_, h.at (k * 8 + 6) ?_, h.at (k * 8 + 7) ?_⟩
  · simpa [Ev.cells] using hg 0 (by omega)
  · simpa [Ev.cells] using hg 1 (by omega)
  · simpa [Ev.cells] using hg 2 (by omega)
  · simpa [Ev.cells] using hg 3 (by omega)
  · simpa [Ev.cells] using hg 4 (by omega)
  · simpa [Ev.cells] using hg 5 (by omega)
  · simpa [Ev.cells] using hg 6 (by omega)
  · simpa [Ev.cells] using hg 7 (by omega)
/-- The world with an event laid at a cell. -/
def layEv (W : World) (g b : Nat) (e : Ev) : World :=
  (((((((W.setCell ⟨g, b, none⟩ (.int .u8 e.k)).setCell ⟨g, b + 1, none⟩ (.int .u32 e.o)).setCell ⟨g, b + 2, none⟩ (.int .u32 e.f)).setCell ⟨g, b + 3, none⟩ (.int .u32 e.n)).setCell ⟨g, b + 4, none⟩ (.int .i32 e.x)).setCell ⟨g, b + 5, none⟩ (.int .i32 e.y)).setCell ⟨g, b + 6, none⟩ (.int .u32 e.c)).setCell ⟨g, b + 7, none⟩ (.float .f64 e.s)
theorem Blk.setEv (h : Blk W g (evs Cs).toArray t) {k : Nat} (hk : k < Cs.length) (e : Ev) : Blk (layEv W g (k * 8) e) g (evs (Cs.set k e)).toArray t := by
  have h2 := (((((((h.set (k * 8) (.int .u8 e.k)).set (k * 8 + 1) (.int .u32 e.o)).set (k * 8 + 2) (.int .u32 e.f)).set (k * 8 + 3) (.int .u32 e.n)).set (k * 8 + 4) (.int .i32 e.x)).set (k * 8 + 5) (.int .i32 e.y)).set (k * 8 + 6) (.int .u32 e.c)).set (k * 8 + 7) (.float .f64 e.s)
  rw [evs_set Cs k e hk]
  simp only [List.setIfInBounds_toArray] at h2
  exact h2
theorem Fr.setEv {S : List Nat} {w W : World} (h : Fr S w W) (b : Nat) (e : Ev) (hg : g ∈ S ∨ w.heap.size ≤ g) : Fr S w (layEv W g b e) :=
  (((((((h.setCell _ _ hg).setCell _ _ hg).setCell _ _ hg).setCell _ _ hg).setCell _ _ hg).setCell _ _ hg).setCell _ _ hg).setCell _ _ hg
theorem Blk.otherEv {c : Array Value} {k : Nat} (h : Blk W k c t) (b : Nat) (e : Ev) (hk : k ≠ g) : Blk (layEv W g b e) k c t :=
  (((((((h.other ⟨g, b, none⟩ _ hk).other ⟨g, b + 1, none⟩ _ hk).other ⟨g, b + 2, none⟩ _ hk).other ⟨g, b + 3, none⟩ _ hk).other ⟨g, b + 4, none⟩ _ hk).other ⟨g, b + 5, none⟩ _ hk).other ⟨g, b + 6, none⟩ _ hk).other ⟨g, b + 7, none⟩ _ hk
end

end Go.Proofs.Ytehdhdocalbfpaa
