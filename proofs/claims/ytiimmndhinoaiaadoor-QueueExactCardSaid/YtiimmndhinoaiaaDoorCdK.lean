/-
  What each card of this seat needs: the listed table of powers, a world that holds the tables, readings with their sizes.
-/
import Derived.Test.YtiimmndhinoaiaaDoorTxA
import Derived.Test.YtiimmndhinoaiaaDoorRead
import Derived.Test.YtiimmndhinoaiaaDoorRdF
import Derived.Test.YtiimmndhinoaiaaDoorBulk
import Derived.Test.YtiimmndhinoaiaaDoorChecked
import Derived.Test.YtiimmndhinoaiaaDoorRows
import Derived.JoinedCond
import Derived.SizedLaws
import Derived.Deep.DeepHandedRow
import Derived.Lib.LaidTab
import Derived.LaidSub
namespace Go.Proofs.YtiimmndhinoaiaaDoor.cardK
open Go.RowKit Go.ChangeShapes Go.WideShapes Go.ChangeAt
set_option linter.unusedVariables false
set_option linter.unusedSimpArgs false

theorem own : ownKnob Tryd.prog.godebug = none := by kernel_rfl
theorem laidOut : laidOutB Tryd.prog = true := by kernel_rfl
theorem gPowType : (Tryd.prog.globals[0]?).map (·.type) = some 130 := by kernel_rfl
theorem cells130 : Tryd.prog.cellsOf 130 = 20 := by kernel_rfl
theorem und130 : ∃ e, Tryd.prog.underlying 130 = some (.array 20 e) ∧ Tryd.prog.underlying e = some (.int .u64) ∧ Tryd.prog.cellsOf e = 1 := ⟨123, by kernel_rfl, by kernel_rfl, by kernel_rfl⟩
abbrev laidL : List (String × DataW Unit) := [("math/bits.deBruijn32tab", Rows.laid_math_bits_deBruijn32tab), ("math/bits.deBruijn64tab", Rows.laid_math_bits_deBruijn64tab), ("internal/strconv.uint64pow10", Rows.laid_internal_strconv_uint64pow10)]
theorem tb_of {W : World} (h : laidMetH Tryd.prog laidL W) : TB W := by
  have h1 := h.filter (fun x => x.1 == "internal/strconv.uint64pow10")
  have e : laidL.filter (fun x => x.1 == "internal/strconv.uint64pow10") = [("internal/strconv.uint64pow10", Lib.tabData .u64 Lib.pow10Tab)] := by
    rw [show Lib.tabData (H := Unit) .u64 Lib.pow10Tab = Rows.laid_internal_strconv_uint64pow10 from rfl]
    simp [laidL]
  rw [e] at h1
  obtain ⟨t, h2, h3, h4⟩ := und130
  exact Lib.tabIs_of_head (rest := []) gPow gPowType h2 h3 h4 cells130 h1
def de32 : List Int := [0, 1, 28, 2, 29, 14, 24, 3, 30, 22, 20, 15, 25, 17, 4, 8, 31, 27, 13, 23, 21, 19, 16, 7, 26, 12, 18, 6, 11, 5, 10, 9]
def de64 : List Int := [0, 1, 56, 2, 57, 49, 28, 3, 61, 58, 42, 50, 38, 29, 17, 4, 62, 47, 59, 36, 45, 43, 51, 22, 53, 39, 33, 30, 24, 18, 12, 5, 63, 55, 48, 27, 60, 41, 37, 16, 46, 35, 44, 21, 52, 32, 23, 11, 54, 26, 40, 15, 34, 20, 31, 10, 25, 14, 19, 9, 13, 8, 7, 6]
def layTab (l : Array Value) (o : Obj) : Obj := match o with
  | .cells _ t frozen => .cells l t frozen
  | o => o
/-- A world for the witness: the settled one, the tables in their blocks. -/
noncomputable def laidWorld (os : Os) : World :=
  { World.holding Tryd.prog os ⟨#[], #[], []⟩ with heap := (((World.holding Tryd.prog os ⟨#[], #[], []⟩).heap.modify 0 (layTab (Lib.pow10Tab.map fun z => Value.int .u64 z).toArray)).modify 1 (layTab (de32.map fun z => Value.int .u8 z).toArray)).modify 2 (layTab (de64.map fun z => Value.int .u8 z).toArray) }
section
variable {P : Program} {w : World} {base : Nat} {spare : Nat → Bool} {held : Bool} {H : Type} {enc : TypeId × Value → H}
/-- How many elements were read. -/
def dlen : DataW H → Nat
  | .slice es _ => es.length
  | _ => 0
theorem read_list {α : Type} {t e : TypeId} {fuel : Nat} {cs : List Value} {x : DataW H × List MemPlace} (ht : P.underlying t = some (.slice e)) (hc : 0 < P.cellsOf e) (Q : List Value → α → Prop)
    (hel : ∀ n cs x, DataW.trod enc P w base spare held n e cs = some x → ∃ a, Q cs a) (h : DataW.trod enc P w base spare held fuel t cs = some x) :
    ∃ v ys, cs = [v] ∧ RdS w v (P.cellsOf e) Q ys ∧ dlen x.1 = ys.length := by
  rcases Deep.open_slice ht h with ⟨rfl, rfl⟩ | ⟨a, len, cap, m, n, D, Pl, rfl, hb, hl, hm, hmm, rfl, hx⟩
  · exact ⟨_, [], rfl, ⟨none, 0, rfl, Nat.le_refl _, by decide, .inl rfl⟩, rfl⟩
  · have hlm : len ≤ m := by rw [hmm]; split <;> omega
    have hx' : ∀ i, i < len → ∃ y : α × List Value, w.cells? base (a.add (i * P.cellsOf e)) (P.cellsOf e) = some y.2 ∧ Q y.2 y.1 := fun i hi => by
      obtain ⟨cs', h1, h2⟩ := hx i (by omega)
      obtain ⟨b, hb⟩ := hel _ _ _ h2
      exact ⟨(b, cs'), h1, hb⟩
    by_cases h0 : len = 0
    · subst h0
      exact ⟨_, [], rfl, ⟨some a, cap, rfl, Nat.zero_le _, hm, .inl rfl⟩, by simp [dlen]⟩
    · obtain ⟨y0, hy0⟩ := hx' 0 (by omega)
      haveI : Inhabited (α × List Value) := ⟨y0⟩
      obtain ⟨F, hF⟩ := Deep.choose_lt hx'
      have hsp : a = ⟨a.block, a.off, none⟩ := by
        obtain ⟨_, hl2, hg⟩ := World.cells?_some hy0.1
        have h2 := hg 0 hc
        rw [List.getElem?_eq_getElem (by omega)] at h2
        have h3 : w.cell? a = some y0.2[0] := by simpa [Addr.add] using h2
        exact addr_of_cell h3
      refine ⟨_, (List.range len).map fun i => (F i).1, rfl, ⟨some a, cap, by simp, by simpa using hl, hm, .inr ⟨a.block, a.off, by rw [← hsp], fun k hk => ?_⟩⟩, by simp [dlen]⟩
      have hk' : k < len := by simpa using hk
      obtain ⟨h1, h2⟩ := hF k hk'
      obtain ⟨_, hl2, hg⟩ := World.cells?_some h1
      refine ⟨(F k).2, hl2, fun j u hu => ?_, by simpa using h2⟩
      have hj : j < P.cellsOf e := by rw [← hl2]; exact (List.getElem?_eq_some_iff.1 hu).1
      have h3 := hg j hj
      rw [hu, Deep.add_add] at h3
      rw [hsp] at h3
      simpa [Addr.add_lit, Nat.add_assoc] using h3
theorem sized_len {H : Type} {ts : List TypeId} {ds : List (DataW H)} (hsz : (DataW.weightsEach P ts ds).all (· ≤ reachBytes) = true) {j : Nat} {t e : TypeId} {d : DataW H} (ht : ts[j]? = some t) (hd : ds[j]? = some d) (hu : P.underlying t = some (.slice e)) : dlen d * P.bytesOf e ≤ 140737488351232 := by
  cases d with
  | slice es sp =>
    have h1 := sized_slice hsz ht hd hu
    have h5 : reachBytes = 140737488351232 := rfl
    rw [h5] at h1
    refine Nat.le_trans (Nat.mul_le_mul_right _ ?_) h1
    simp [dlen]
  | _ => simp [dlen]
theorem sum_le {H : Type} (sz : Nat → Nat) (D : Nat → DataW H) : ∀ l : List Nat, (∀ i ∈ l, sz i ≤ Rows.uptoBulk (D i)) → (l.map sz).sum ≤ Rows.uptoBulkAll (l.map D)
  | [], _ => Nat.zero_le _
  | i :: l, h => by
    have h1 := h i (List.mem_cons_self ..)
    have h2 := sum_le sz D l (fun j hj => h j (List.mem_cons_of_mem _ hj))
    simp only [List.map_cons, List.sum_cons, Rows.uptoBulkAll]
    omega
theorem read_sliceB {α : Type} {t e : TypeId} {fuel : Nat} {cs : List Value} {x : DataW H × List MemPlace} (ht : P.underlying t = some (.slice e)) (hc : 0 < P.cellsOf e) (Q : List Value → α → Prop) (sz : α → Nat)
    (hel : ∀ n cs x, DataW.trod enc P w base spare held n e cs = some x → ∃ a, Q cs a ∧ sz a ≤ Rows.uptoBulk x.1) (h : DataW.trod enc P w base spare held fuel t cs = some x) :
    ∃ v ys, cs = [v] ∧ RdS w v (P.cellsOf e) Q ys ∧ ys.length ≤ Rows.uptoBulk x.1 ∧ (ys.map sz).sum ≤ Rows.uptoBulk x.1 := by
  rcases Deep.open_slice ht h with ⟨rfl, _⟩ | ⟨a, len, cap, m, n, D, Pl, rfl, hb, hl, hm, hmm, rfl, hx⟩
  · exact ⟨_, [], rfl, ⟨none, 0, rfl, Nat.le_refl _, by decide, .inl rfl⟩, Nat.zero_le _, Nat.zero_le _⟩
  · have hlm : len ≤ m := by rw [hmm]; split <;> omega
    have hx' : ∀ i, i < len → ∃ y : α × List Value, w.cells? base (a.add (i * P.cellsOf e)) (P.cellsOf e) = some y.2 ∧ Q y.2 y.1 ∧ sz y.1 ≤ Rows.uptoBulk (D i) := fun i hi => by
      obtain ⟨cs', h1, h2⟩ := hx i (by omega)
      obtain ⟨b, hb, hs⟩ := hel _ _ _ h2
      exact ⟨(b, cs'), h1, hb, hs⟩
    have hbl := bulks.slice_le ((List.range len).map D) ((List.range (m - len)).map fun j => D (len + j))
    have hbe := bulks.slice_elems ((List.range len).map D) ((List.range (m - len)).map fun j => D (len + j))
    simp only [List.length_map, List.length_range] at hbl
    by_cases h0 : len = 0
    · subst h0
      exact ⟨_, [], rfl, ⟨some a, cap, rfl, Nat.zero_le _, hm, .inl rfl⟩, Nat.zero_le _, Nat.zero_le _⟩
    · obtain ⟨y0, hy0⟩ := hx' 0 (by omega)
      haveI : Inhabited (α × List Value) := ⟨y0⟩
      obtain ⟨F, hF⟩ := Deep.choose_lt hx'
      have hsp : a = ⟨a.block, a.off, none⟩ := by
        obtain ⟨_, hl2, hg⟩ := World.cells?_some hy0.1
        have h2 := hg 0 hc
        rw [List.getElem?_eq_getElem (by omega)] at h2
        have h3 : w.cell? a = some y0.2[0] := by simpa [Addr.add] using h2
        exact addr_of_cell h3
      refine ⟨_, (List.range len).map fun i => (F i).1, rfl, ⟨some a, cap, by simp, by simpa using hl, hm, .inr ⟨a.block, a.off, by rw [← hsp], fun k hk => ?_⟩⟩, ?_, ?_⟩
      · have hk' : k < len := by simpa using hk
        obtain ⟨h1, h2, _⟩ := hF k hk'
        obtain ⟨_, hl2, hg⟩ := World.cells?_some h1
        refine ⟨(F k).2, hl2, fun j u hu => ?_, by simpa using h2⟩
        have hj : j < P.cellsOf e := by rw [← hl2]; exact (List.getElem?_eq_some_iff.1 hu).1
        have h3 := hg j hj
        rw [hu, Deep.add_add] at h3
        rw [hsp] at h3
        simpa [Addr.add_lit, Nat.add_assoc] using h3
      · simp only [List.length_map, List.length_range]
        omega
      · have := sum_le (fun i => sz (F i).1) D (List.range len) (fun i hi => (hF i (List.mem_range.1 hi)).2.2)
        rw [List.map_map]
        have e : (sz ∘ fun i => (F i).1) = fun i => sz (F i).1 := rfl
        rw [e]
        exact Nat.le_trans this (Nat.le_trans (Nat.le_succ _) hbe)
end
theorem i64_of {n : Int} (h : (Lit.int .i64 n).wf = true) : I64 n := by
  exact bounds_i64 h
theorem two_of {α : Type} {l : List α} (h : l.length = 2) : ∃ a b, l = [a, b] := by
  match l, h with
  | [a, b], _ => exact ⟨a, b, rfl⟩
theorem three_of {α : Type} {l : List α} (h : l.length = 3) : ∃ a b c, l = [a, b, c] := by
  match l, h with
  | [a, b, c], _ => exact ⟨a, b, c, rfl⟩
theorem five_of {α : Type} {l : List α} (h : l.length = 5) : ∃ a b c d e, l = [a, b, c, d, e] := by
  match l, h with
  | [a, b, c, d, e], _ => exact ⟨a, b, c, d, e, rfl⟩
end Go.Proofs.YtiimmndhinoaiaaDoor.cardK
