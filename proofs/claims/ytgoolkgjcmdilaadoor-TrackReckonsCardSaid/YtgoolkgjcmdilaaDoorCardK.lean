/-
  What each card of this seat needs: the listed table, a world that holds it, readings with their sizes.
-/
import Derived.Test.YtgoolkgjcmdilaaDoorBitC
import Derived.Test.YtgoolkgjcmdilaaDoorRead
import Derived.Test.YtgoolkgjcmdilaaDoorChecked
import Derived.Test.YtgoolkgjcmdilaaDoorRows
import Derived.JoinedCond
import Derived.SizedLaws
import Derived.Deep.DeepHandedRow
import Derived.Lib.LaidTab
namespace Go.Proofs.YtgoolkgjcmdilaaDoor.cardK
open Go.RowKit Go.ChangeShapes Go.WideShapes Go.ChangeAt
set_option linter.unusedVariables false
set_option linter.unusedSimpArgs false

theorem own : ownKnob Tryd.prog.godebug = none := by kernel_rfl
theorem laidOut : laidOutB Tryd.prog = true := by kernel_rfl
theorem gTab : Tryd.prog.globalNamed "math/bits.deBruijn64tab" = some 1 := by kernel_rfl
theorem gTabType : (Tryd.prog.globals[1]?).map (·.type) = some 228 := by kernel_rfl
theorem cells228 : Tryd.prog.cellsOf 228 = 64 := by kernel_rfl
theorem cells5 : Tryd.prog.cellsOf 5 = 1 := by kernel_rfl
def deBI : List Int := [0, 1, 56, 2, 57, 49, 28, 3, 61, 58, 42, 50, 38, 29, 17, 4, 62, 47, 59, 36, 45, 43, 51, 22, 53, 39, 33, 30, 24, 18, 12, 5, 63, 55, 48, 27, 60, 41, 37, 16, 46, 35, 44, 21, 52, 32, 23, 11, 54, 26, 40, 15, 34, 20, 31, 10, 25, 14, 19, 9, 13, 8, 7, 6]
abbrev laidL : List (String × DataW Unit) := [("math/bits.deBruijn64tab", Rows.laid_math_bits_deBruijn64tab)]
theorem table {W : World} (h : laidMetH Tryd.prog laidL W) : Lib.TabIs Tryd.prog W "math/bits.deBruijn64tab" .u8 deBI :=
  Lib.tabIs_of_head (rest := []) gTab gTabType Tryd.underlying228 Tryd.underlying5 cells5 cells228 h
theorem deB_all : (List.range 64).all (fun i => decide (deBI[i]? = some ((deB.getD i 0 : Nat) : Int))) = true := by decide +kernel
theorem deB_of {W : World} (h : laidMetH Tryd.prog laidL W) : DeB W := fun i hi => by
  have h1 := (table h).cell gTab i hi
  have h2 := List.all_eq_true.1 deB_all i (List.mem_range.2 hi)
  have h3 : deBI[i]? = some ((deB.getD i 0 : Nat) : Int) := by simpa using h2
  rw [List.getD_eq_getElem?_getD, h3] at h1
  exact h1
/-- A world for the witness: the settled one, the table in its block. -/
noncomputable def laidWorld (os : Os) : World :=
  { World.holding Tryd.prog os ⟨#[], #[], []⟩ with heap := (World.holding Tryd.prog os ⟨#[], #[], []⟩).heap.modify 1 fun
      | .cells _ t frozen => .cells (deBI.map fun z => Value.int .u8 z).toArray t frozen
      | o => o }
section
variable {P : Program} {w : World} {base : Nat} {spare : Nat → Bool} {held : Bool} {H : Type} {enc : TypeId × Value → H}
/-- How many elements were read. -/
def dlen : DataW H → Nat
  | .slice es _ => es.length
  | _ => 0
theorem read_list {α : Type} {t e : TypeId} {fuel : Nat} {cs : List Value} {x : DataW H × List MemPlace} (ht : P.underlying t = some (.slice e)) (hc : 0 < P.cellsOf e) (Q : List Value → α → Prop)
    (hel : ∀ n cs x, DataW.trod enc P w base spare held n e cs = some x → ∃ a, Q cs a) (h : DataW.trod enc P w base spare held fuel t cs = some x) :
    ∃ v ys, cs = [v] ∧ RdS w v (P.cellsOf e) Q ys ∧ dlen x.1 = ys.length := by
  rcases Deep.open_slice ht h with ⟨rfl, rfl⟩ | ⟨a, len, cap, m, n, D, Pl, rfl, hb, hl, hm, hmm, rfl, hx⟩
  · exact ⟨_, [], rfl, ⟨none, 0, rfl, Nat.le_refl _, by decide, .inl rfl⟩, rfl⟩
  · have hlm : len ≤ m := by rw [hmm]; split <;> omega
    have hx' : ∀ i, i < len → ∃ y : α × List Value, w.cells? base (a.add (i * P.cellsOf e)) (P.cellsOf e) = some y.2 ∧ Q y.2 y.1 := fun i hi => by
      obtain ⟨cs', h1, h2⟩ := hx i (by omega)
      obtain ⟨b, hb⟩ := hel _ _ _ h2
      exact ⟨(b, cs'), h1, hb⟩
    by_cases h0 : len = 0
    · subst h0
      exact ⟨_, [], rfl, ⟨some a, cap, rfl, Nat.zero_le _, hm, .inl rfl⟩, by simp [dlen]⟩
    · obtain ⟨y0, hy0⟩ := hx' 0 (by omega)
      haveI : Inhabited (α × List Value) := ⟨y0⟩
      obtain ⟨F, hF⟩ := Deep.choose_lt hx'
      have hsp : a = ⟨a.block, a.off, none⟩ := by
        obtain ⟨_, hl2, hg⟩ := World.cells?_some hy0.1
        have h2 := hg 0 hc
        rw [List.getElem?_eq_getElem (by omega)] at h2
        have h3 : w.cell? a = some y0.2[0] := by simpa [Addr.add] using h2
        exact addr_of_cell h3
      refine ⟨_, (List.range len).map fun i => (F i).1, rfl, ⟨some a, cap, by simp, by simpa using hl, hm, .inr ⟨a.block, a.off, by rw [← hsp], fun k hk => ?_⟩⟩, by simp [dlen]⟩
      have hk' : k < len := by simpa using hk
      obtain ⟨h1, h2⟩ := hF k hk'
      obtain ⟨_, hl2, hg⟩ := World.cells?_some h1
      refine ⟨(F k).2, hl2, fun j u hu => ?_, by simpa using h2⟩
      have hj : j < P.cellsOf e := by rw [← hl2]; exact (List.getElem?_eq_some_iff.1 hu).1
      have h3 := hg j hj
      rw [hu, Deep.add_add] at h3
      rw [hsp] at h3
      simpa [Addr.add_lit, Nat.add_assoc] using h3
theorem sized_len {H : Type} {ts : List TypeId} {ds : List (DataW H)} (hsz : (DataW.weightsEach P ts ds).all (· ≤ reachBytes) = true) {j : Nat} {t e : TypeId} {d : DataW H} (ht : ts[j]? = some t) (hd : ds[j]? = some d) (hu : P.underlying t = some (.slice e)) : dlen d * P.bytesOf e ≤ 140737488351232 := by
  cases d with
  | slice es sp =>
    have h1 := sized_slice hsz ht hd hu
    have h5 : reachBytes = 140737488351232 := rfl
    rw [h5] at h1
    refine Nat.le_trans (Nat.mul_le_mul_right _ ?_) h1
    simp [dlen]
  | _ => simp [dlen]
end
theorem two_of {α : Type} {l : List α} (h : l.length = 2) : ∃ a b, l = [a, b] := by
  match l, h with
  | [a, b], _ => exact ⟨a, b, rfl⟩
theorem three_of {α : Type} {l : List α} (h : l.length = 3) : ∃ a b c, l = [a, b, c] := by
  match l, h with
  | [a, b, c], _ => exact ⟨a, b, c, rfl⟩
theorem five_of {α : Type} {l : List α} (h : l.length = 5) : ∃ a b c d e, l = [a, b, c, d, e] := by
  match l, h with
  | [a, b, c, d, e], _ => exact ⟨a, b, c, d, e, rfl⟩
end Go.Proofs.YtgoolkgjcmdilaaDoor.cardK
