/-
  What each card of this seat needs: a world that holds the listed variables, what they give.
  What the cards of steps read: bytes, a step, with their sizes; the listed variables of ScriptLines.
-/
import Derived.Test.YtbpgpjibljgiiaaGreatDoorBaseM
import Derived.Test.YtbpgpjibljgiiaaGreatDoorShelf
import Derived.Test.YtbpgpjibljgiiaaGreatDoorChecked
import Derived.Test.YtbpgpjibljgiiaaGreatDoorRows
import Derived.JoinedCond
import Derived.SizedLaws
import Derived.Deep.DeepHandedRow
import Derived.Lib.LaidTab
import Derived.LaidSub
import Derived.LaidHandle
import Derived.RowKitTokens
import Derived.ChangeMaps5
import Derived.Test.YtbpgpjibljgiiaaGreatDoorLefA
namespace Go.Proofs.YtbpgpjibljgiiaaGreatDoor.cardK
open Go.RowKit Go.ChangeShapes Go.WideShapes Go.ChangeAt
set_option linter.unusedVariables false
set_option linter.unusedSimpArgs false

theorem own : ownKnob Tryz.prog.godebug = none := by kernel_rfl
theorem laidOut : laidOutB Tryz.prog = true := by kernel_rfl
theorem gErr : Tryz.prog.globalNamed "errors.errorType" = some 0 := by kernel_rfl
theorem gPow : Tryz.prog.globalNamed "internal/strconv.uint64pow10" = some 2 := by kernel_rfl
theorem gFirst : Tryz.prog.globalNamed "unicode/utf8.first" = some 3 := by kernel_rfl
theorem gAcc : Tryz.prog.globalNamed "unicode/utf8.acceptRanges" = some 4 := by kernel_rfl
theorem gDe32 : Tryz.prog.globalNamed "math/bits.deBruijn32tab" = some 5 := by kernel_rfl
theorem gDe64 : Tryz.prog.globalNamed "math/bits.deBruijn64tab" = some 6 := by kernel_rfl
theorem rt : (Tryz.prog.cutTypes.find? (·.1 == "internal/reflectlite.rtype")).map (·.2) = some 141 := by kernel_rfl
theorem tsize : ∃ n, Tryz.prog.types.size = n ∧ ((List.range n).filter fun t => Tryz.prog.rowNamed t [101, 114, 114, 111, 114]) = [28] := ⟨Tryz.prog.types.size, rfl, by kernel_rfl⟩
/-- The cell of errors.errorType. -/
theorem handle_of_laid {W : World} {d : DataW Unit} (hd : d = Rows.laid_errors_errorType) (h : laidMetH Tryz.prog [("errors.errorType", d)] W) : W.cell? ⟨0, 0, none⟩ = some (.iface 141 (.agg #[.pointer (some ⟨7, 28, none⟩)])) := by
  subst hd
  have h' : laidMet Tryz.prog [] W ∧ handlesMet Tryz.prog [("errors.errorType", Rows.laid_errors_errorType)] W := h
  obtain ⟨name, u, ty, e1, e2, e3, e4, e5⟩ := h'.2 _ (List.mem_singleton.2 rfl)
  have en : name = [101, 114, 114, 111, 114] := (Option.some.inj e1).symm
  subst en
  obtain rfl := Option.some.inj (rt.symm.trans e2)
  obtain ⟨n, hn, hone⟩ := tsize
  have hm : ty ∈ (List.range n).filter fun t => Tryz.prog.rowNamed t [101, 114, 114, 111, 114] := List.mem_filter.2 ⟨List.mem_range.2 (by rw [← hn]; exact e3), e4⟩
  rw [hone] at hm
  obtain rfl := List.mem_singleton.1 hm
  have hh : typeHandle Tryz.prog 28 = .pointer (some ⟨7, 28, none⟩) := by kernel_rfl
  rw [hh] at e5
  simpa using World.var?_cell gErr e5 0
def de32 : List Int := [0, 1, 28, 2, 29, 14, 24, 3, 30, 22, 20, 15, 25, 17, 4, 8, 31, 27, 13, 23, 21, 19, 16, 7, 26, 12, 18, 6, 11, 5, 10, 9]
def de64 : List Int := [0, 1, 56, 2, 57, 49, 28, 3, 61, 58, 42, 50, 38, 29, 17, 4, 62, 47, 59, 36, 45, 43, 51, 22, 53, 39, 33, 30, 24, 18, 12, 5, 63, 55, 48, 27, 60, 41, 37, 16, 46, 35, 44, 21, 52, 32, 23, 11, 54, 26, 40, 15, 34, 20, 31, 10, 25, 14, 19, 9, 13, 8, 7, 6]
def acc : List Int := [128, 191, 160, 191, 128, 159, 144, 191, 128, 143, 0, 0, 0, 0, 0, 0, 0, 0, 0, 0, 0, 0, 0, 0, 0, 0, 0, 0, 0, 0, 0, 0]
def layTab (l : Array Value) (o : Obj) : Obj := match o with
  | .cells _ t frozen => .cells l t frozen
  | o => o
/-- A world for the witness: the settled one, the variables in their blocks. -/
noncomputable def laidWorld (os : Os) : World :=
  { World.holding Tryz.prog os ⟨#[], #[], []⟩ with heap := (((((((World.holding Tryz.prog os ⟨#[], #[], []⟩).heap.modify 0 (layTab #[.iface 141 (.agg #[.pointer (some ⟨7, 28, none⟩)])])).modify 2 (layTab (Lib.pow10Tab.map fun z => Value.int .u64 z).toArray)).modify 3 (layTab (Go.Pinned.utf8FirstZ.map fun z => Value.int .u8 (z : Nat)).toArray)).modify 4 (layTab (acc.map fun z => Value.int .u8 z).toArray)).modify 5 (layTab (de32.map fun z => Value.int .u8 z).toArray)).modify 6 (layTab (de64.map fun z => Value.int .u8 z).toArray)) }
/-- What the search asks of its one variable. -/
theorem maxlen {W : World} (h : W.ShapedOpen Tryz.prog) : ∃ m, W.cell? ⟨1, 0, none⟩ = some (.int .i64 m) := Tryz.laysM145.s1_3 W h
theorem string_reach {ts : List TypeId} {H : Type} {ds : List (DataW H)} (h : (DataW.weightsEach Tryz.prog ts ds).all (· ≤ reachBytes) = true) {j : Nat} {t : TypeId} {s : ByteArray} (ht : ts[j]? = some t) (hd : ds[j]? = some (.lit (.string s.data.toList))) : s.size ≤ 140737488351232 := by
  have := sized_string h ht hd
  rw [Array.length_toList] at this
  exact this
end Go.Proofs.YtbpgpjibljgiiaaGreatDoor.cardK
namespace Go.Proofs.YtbpgpjibljgiiaaGreatDoor.cardK
open Go.RowKit Go.ChangeShapes Go.WideShapes Go.ChangeAt
set_option linter.unusedVariables false
set_option linter.unusedSimpArgs false
section
variable {P : Program} {w : World} {base : Nat} {spare : Nat → Bool} {held : Bool} {H : Type} {enc : TypeId × Value → H}
/-- How many elements were read. -/
def dlen : DataW H → Nat
  | .slice es _ => es.length
  | _ => 0
theorem read_list {α : Type} {t e : TypeId} {fuel : Nat} {cs : List Value} {x : DataW H × List MemPlace} (ht : P.underlying t = some (.slice e)) (hc : 0 < P.cellsOf e) (Q : List Value → α → Prop)
    (hel : ∀ n cs x, DataW.trod enc P w base spare held n e cs = some x → ∃ a, Q cs a) (h : DataW.trod enc P w base spare held fuel t cs = some x) :
    ∃ v ys, cs = [v] ∧ RdS w v (P.cellsOf e) Q ys ∧ dlen x.1 = ys.length := by
  rcases Deep.open_slice ht h with ⟨rfl, rfl⟩ | ⟨a, len, cap, m, n, D, Pl, rfl, hb, hl, hm, hmm, rfl, hx⟩
  · exact ⟨_, [], rfl, ⟨none, 0, rfl, Nat.le_refl _, by decide, .inl rfl⟩, rfl⟩
  · have hlm : len ≤ m := by rw [hmm]; split <;> omega
    have hx' : ∀ i, i < len → ∃ y : α × List Value, w.cells? base (a.add (i * P.cellsOf e)) (P.cellsOf e) = some y.2 ∧ Q y.2 y.1 := fun i hi => by
      obtain ⟨cs', h1, h2⟩ := hx i (by omega)
      obtain ⟨b, hb⟩ := hel _ _ _ h2
      exact ⟨(b, cs'), h1, hb⟩
    by_cases h0 : len = 0
    · subst h0
      exact ⟨_, [], rfl, ⟨some a, cap, rfl, Nat.zero_le _, hm, .inl rfl⟩, by simp [dlen]⟩
    · obtain ⟨y0, hy0⟩ := hx' 0 (by omega)
      haveI : Inhabited (α × List Value) := ⟨y0⟩
      obtain ⟨F, hF⟩ := Deep.choose_lt hx'
      have hsp : a = ⟨a.block, a.off, none⟩ := by
        obtain ⟨_, hl2, hg⟩ := World.cells?_some hy0.1
        have h2 := hg 0 hc
        rw [List.getElem?_eq_getElem (by omega)] at h2
        have h3 : w.cell? a = some y0.2[0] := by simpa [Addr.add] using h2
        exact addr_of_cell h3
      refine ⟨_, (List.range len).map fun i => (F i).1, rfl, ⟨some a, cap, by simp, by simpa using hl, hm, .inr ⟨a.block, a.off, by rw [← hsp], fun k hk => ?_⟩⟩, by simp [dlen]⟩
      have hk' : k < len := by simpa using hk
      obtain ⟨h1, h2⟩ := hF k hk'
      obtain ⟨_, hl2, hg⟩ := World.cells?_some h1
      refine ⟨(F k).2, hl2, fun j u hu => ?_, by simpa using h2⟩
      have hj : j < P.cellsOf e := by rw [← hl2]; exact (List.getElem?_eq_some_iff.1 hu).1
      have h3 := hg j hj
      rw [hu, Deep.add_add] at h3
      rw [hsp] at h3
      simpa [Addr.add_lit, Nat.add_assoc] using h3
theorem sized_len {H : Type} {ts : List TypeId} {ds : List (DataW H)} (hsz : (DataW.weightsEach P ts ds).all (· ≤ reachBytes) = true) {j : Nat} {t e : TypeId} {d : DataW H} (ht : ts[j]? = some t) (hd : ds[j]? = some d) (hu : P.underlying t = some (.slice e)) : dlen d * P.bytesOf e ≤ 140737488351232 := by
  cases d with
  | slice es sp =>
    have h1 := sized_slice hsz ht hd hu
    have h5 : reachBytes = 140737488351232 := rfl
    rw [h5] at h1
    refine Nat.le_trans (Nat.mul_le_mul_right _ ?_) h1
    simp [dlen]
  | _ => simp [dlen]
end
/-- The parts of a struct that came in weigh no more than it may. -/
theorem sized_agg {P : Program} {H : Type} {ts : List TypeId} {ds : List (DataW H)} (hsz : (DataW.weightsEach P ts ds).all (· ≤ reachBytes) = true) {j : Nat} {t : TypeId} {fs : Array Field} {parts : List (DataW H)} (ht : ts[j]? = some t) (hd : ds[j]? = some (.agg parts)) (hu : P.underlying t = some (.struct fs)) :
    (DataW.weightsEach P (fs.toList.map (·.type)) parts).all (· ≤ reachBytes) = true := by
  rw [List.all_eq_true] at hsz ⊢
  intro n hn
  refine hsz n (DataW.weights_mem_each ht hd n ?_)
  unfold DataW.weights
  rw [hu]
  exact hn
theorem five_of {α : Type} {l : List α} (h : l.length = 5) : ∃ a b c d e, l = [a, b, c, d, e] := by
  match l, h with
  | [a, b, c, d, e], _ => exact ⟨a, b, c, d, e, rfl⟩
theorem cells5 : Tryz.prog.cellsOf 5 = 1 := by kernel_rfl
theorem cells44 : Tryz.prog.cellsOf 64 = 5 := by kernel_rfl
theorem bytes5 : Tryz.prog.bytesOf 5 = 1 := by kernel_rfl
section
variable {w : World} {H : Type} {enc : TypeId × Value → H} {base : Nat} {spare : Nat → Bool} {held : Bool}
theorem rds_bytes {v : Value} {l : List Int} (h : RdS w v 1 (fun cs (z : Int) => cs = [.int .u8 z] ∧ 0 ≤ z ∧ z < 256) l) : Rd w v (Sc.u8s l) ∧ Sc.Byt l := by
  have hl : (Sc.u8s l).length = l.length := by simp [Sc.u8s]
  obtain ⟨p, cap, rfl, h1, h2, h3⟩ := h
  refine ⟨⟨p, cap, by rw [hl], by rw [hl]; exact h1, ?_⟩, fun z hz => ?_⟩
  · rcases h3 with h3 | ⟨g, o, rfl, h3⟩
    · exact .inl (by rw [hl]; exact h3)
    · refine .inr ⟨g, o, rfl, fun k u hu => ?_⟩
      have hk : k < l.length := by rw [← hl]; exact (List.getElem?_eq_some_iff.1 hu).1
      obtain ⟨cs, h4, h5, h6, _⟩ := h3 k hk
      subst h6
      have := h5 0 (.int .u8 l[k]) rfl
      have hu' : u = .int .u8 l[k] := by simp [Sc.u8s, hk] at hu; exact hu.symm
      rw [hu']
      simpa using this
  · obtain ⟨k, hk, rfl⟩ := List.mem_iff_getElem.1 hz
    rcases h3 with h3 | ⟨g, o, rfl, h3⟩
    · omega
    · obtain ⟨cs, h4, h5, h6⟩ := h3 k hk
      exact h6.2
theorem read_bytes {fuel : Nat} {cs : List Value} {x : DataW H × List MemPlace} (h : DataW.trod enc Tryz.prog w base spare held fuel 62 cs = some x) :
    ∃ v l, cs = [v] ∧ Rd w v (Sc.u8s l) ∧ Sc.Byt l ∧ dlen x.1 = l.length := by
  obtain ⟨v, l, h1, h2, h3⟩ := read_list Tryz.underlying62 (by rw [cells5]; decide) (fun cs (z : Int) => cs = [.int .u8 z] ∧ 0 ≤ z ∧ z < 256) (fun n cs x hx => by
    obtain ⟨z, hz, hw⟩ := read_int Tryz.underlying5 hx
    have := bounds_u8 hw
    exact ⟨z, hz, this.1, by omega⟩) h
  rw [cells5] at h2
  obtain ⟨h4, h5⟩ := rds_bytes h2
  exact ⟨v, l, h1, h4, h5, h3⟩
set_option maxRecDepth 100000 in
theorem read_step {fuel : Nat} {cs : List Value} {x : DataW H × List MemPlace} (h : DataW.trod enc Tryz.prog w base spare held fuel 64 cs = some x) :
    ∃ (s : Sc.St) (p : Option Addr) (c : Nat) (d0 d1 d2 d3 d4 : DataW H), cs = s.cells (.slice p s.by'.length c) ∧ Sc.StI s ∧ Rd w (.slice p s.by'.length c) (Sc.u8s s.by') ∧ x.1 = .agg [d0, d1, d2, d3, d4] ∧ dlen d4 = s.by'.length := by
  obtain ⟨xs, m, _, hx, hl, hlen, hf⟩ := DataW.trod_struct Tryz.underlying64 h
  rw [cells44] at hl
  obtain ⟨b0, b1, b2, b3, b4, rfl⟩ := five_of hl
  have hlen : xs.length = 5 := hlen
  obtain ⟨y0, y1, y2, y3, y4, rfl⟩ := five_of hlen
  obtain ⟨n0, h0, w0⟩ := read_int (cs := [b0]) Tryz.underlying61 (hf 0 _ rfl)
  obtain ⟨n1, h1, w1⟩ := read_int (cs := [b1]) Tryz.underlying3 (hf 1 _ rfl)
  obtain ⟨n2, h2, w2⟩ := read_int (cs := [b2]) Tryz.underlying3 (hf 2 _ rfl)
  obtain ⟨n3, h3, w3⟩ := read_int (cs := [b3]) Tryz.underlying3 (hf 3 _ rfl)
  obtain ⟨v, l, h4, r1, r2, r3⟩ := read_bytes (cs := [b4]) (hf 4 _ rfl)
  obtain rfl : b0 = .int .u8 n0 := by simpa using h0
  obtain rfl : b1 = .int .i64 n1 := by simpa using h1
  obtain rfl : b2 = .int .i64 n2 := by simpa using h2
  obtain rfl : b3 = .int .i64 n3 := by simpa using h3
  obtain rfl : b4 = v := by simpa using h4
  have q0 := bounds_u8 w0
  have r1' := r1
  obtain ⟨p, c, hv, -⟩ := r1
  have hv' : b4 = .slice p l.length c := by rw [hv]; simp [Sc.u8s]
  subst hv'
  refine ⟨⟨n0.toNat, n1, n2, n3, l⟩, p, c, _, _, _, _, _, ?_, ⟨by show n0.toNat < 256; omega, bounds_i64 w1, bounds_i64 w2, bounds_i64 w3, r2⟩, r1', by rw [hx]; rfl, r3⟩
  show [Value.int .u8 n0, .int .i64 n1, .int .i64 n2, .int .i64 n3, _] = [Value.int .u8 (n0.toNat : Nat), .int .i64 n1, .int .i64 n2, .int .i64 n3, _]
  rw [show ((n0.toNat : Nat) : Int) = n0 by omega]
end
theorem gPowType : (Tryz.prog.globals[2]?).map (·.type) = some 169 := by kernel_rfl
theorem cells166 : Tryz.prog.cellsOf 169 = 20 := by kernel_rfl
theorem und166 : ∃ e, Tryz.prog.underlying 169 = some (.array 20 e) ∧ Tryz.prog.underlying e = some (.int .u64) ∧ Tryz.prog.cellsOf e = 1 := ⟨133, by kernel_rfl, by kernel_rfl, by kernel_rfl⟩
theorem tb_of {W : World} {L : List (String × DataW Unit)} (h : laidMetH Tryz.prog L W) (e : L.filter (fun x => x.1 == "internal/strconv.uint64pow10") = [("internal/strconv.uint64pow10", Rows.laid_internal_strconv_uint64pow10)]) : TB W := by
  have h1 := h.filter (fun x => x.1 == "internal/strconv.uint64pow10")
  rw [e, show Rows.laid_internal_strconv_uint64pow10 = Lib.tabData (H := Unit) .u64 Lib.pow10Tab from rfl] at h1
  obtain ⟨t, h2, h3, h4⟩ := und166
  exact Lib.tabIs_of_head (rest := []) gPow gPowType h2 h3 h4 cells166 h1
end Go.Proofs.YtbpgpjibljgiiaaGreatDoor.cardK
