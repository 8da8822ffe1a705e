/-
  What each card of this seat needs: a world that holds the listed variables, what they give.
  What the cards of steps read: bytes, a step, with their sizes; the listed variables of ScriptLines.
  What the card of ScriptPrints reads: a list of steps, a script, with their sizes.
-/
import Derived.Test.YtbpgpjibljgiiaaDoorRead
import Derived.Test.YtbpgpjibljgiiaaDoorRdF
import Derived.Test.YtbpgpjibljgiiaaDoorShelf
import Derived.Test.YtbpgpjibljgiiaaDoorChecked
import Derived.Test.YtbpgpjibljgiiaaDoorRows
import Derived.JoinedCond
import Derived.SizedLaws
import Derived.Deep.DeepHandedRow
import Derived.Lib.LaidTab
import Derived.LaidSub
import Derived.LaidHandle
import Derived.RowKitTokens
import Derived.ChangeMaps5
import Derived.Test.YtbpgpjibljgiiaaDoorLefQ
namespace Go.Proofs.YtbpgpjibljgiiaaDoor.cardK
open Go.RowKit Go.ChangeShapes Go.WideShapes Go.ChangeAt
set_option linter.unusedVariables false
set_option linter.unusedSimpArgs false

theorem own : ownKnob Tryd.prog.godebug = none := by kernel_rfl
theorem laidOut : laidOutB Tryd.prog = true := by kernel_rfl
theorem gErr : Tryd.prog.globalNamed "errors.errorType" = some 0 := by kernel_rfl
theorem gPow : Tryd.prog.globalNamed "internal/strconv.uint64pow10" = some 2 := by kernel_rfl
theorem gFirst : Tryd.prog.globalNamed "unicode/utf8.first" = some 3 := by kernel_rfl
theorem gAcc : Tryd.prog.globalNamed "unicode/utf8.acceptRanges" = some 4 := by kernel_rfl
theorem gDe32 : Tryd.prog.globalNamed "math/bits.deBruijn32tab" = some 5 := by kernel_rfl
theorem gDe64 : Tryd.prog.globalNamed "math/bits.deBruijn64tab" = some 6 := by kernel_rfl
theorem rt : (Tryd.prog.cutTypes.find? (·.1 == "internal/reflectlite.rtype")).map (·.2) = some 121 := by kernel_rfl
theorem tsize : ∃ n, Tryd.prog.types.size = n ∧ ((List.range n).filter fun t => Tryd.prog.rowNamed t [101, 114, 114, 111, 114]) = [31] := ⟨Tryd.prog.types.size, rfl, by kernel_rfl⟩
/-- The cell of errors.errorType. -/
theorem handle_of_laid {W : World} {d : DataW Unit} (hd : d = Rows.laid_errors_errorType) (h : laidMetH Tryd.prog [("errors.errorType", d)] W) : W.cell? ⟨0, 0, none⟩ = some (.iface 121 (.agg #[.pointer (some ⟨7, 31, none⟩)])) := by
  subst hd
  have h' : laidMet Tryd.prog [] W ∧ handlesMet Tryd.prog [("errors.errorType", Rows.laid_errors_errorType)] W := h
  obtain ⟨name, u, ty, e1, e2, e3, e4, e5⟩ := h'.2 _ (List.mem_singleton.2 rfl)
  have en : name = [101, 114, 114, 111, 114] := (Option.some.inj e1).symm
  subst en
  obtain rfl := Option.some.inj (rt.symm.trans e2)
  obtain ⟨n, hn, hone⟩ := tsize
  have hm : ty ∈ (List.range n).filter fun t => Tryd.prog.rowNamed t [101, 114, 114, 111, 114] := List.mem_filter.2 ⟨List.mem_range.2 (by rw [← hn]; exact e3), e4⟩
  rw [hone] at hm
  obtain rfl := List.mem_singleton.1 hm
  have hh : typeHandle Tryd.prog 31 = .pointer (some ⟨7, 31, none⟩) := by kernel_rfl
  rw [hh] at e5
  simpa using World.var?_cell gErr e5 0
def de32 : List Int := [0, 1, 28, 2, 29, 14, 24, 3, 30, 22, 20, 15, 25, 17, 4, 8, 31, 27, 13, 23, 21, 19, 16, 7, 26, 12, 18, 6, 11, 5, 10, 9]
def de64 : List Int := [0, 1, 56, 2, 57, 49, 28, 3, 61, 58, 42, 50, 38, 29, 17, 4, 62, 47, 59, 36, 45, 43, 51, 22, 53, 39, 33, 30, 24, 18, 12, 5, 63, 55, 48, 27, 60, 41, 37, 16, 46, 35, 44, 21, 52, 32, 23, 11, 54, 26, 40, 15, 34, 20, 31, 10, 25, 14, 19, 9, 13, 8, 7, 6]
def acc : List Int := [128, 191, 160, 191, 128, 159, 144, 191, 128, 143, 0, 0, 0, 0, 0, 0, 0, 0, 0, 0, 0, 0, 0, 0, 0, 0, 0, 0, 0, 0, 0, 0]
def layTab (l : Array Value) (o : Obj) : Obj := match o with
  | .cells _ t frozen => .cells l t frozen
  | o => o
/-- A world for the witness: the settled one, the variables in their blocks. -/
noncomputable def laidWorld (os : Os) : World :=
  { World.holding Tryd.prog os ⟨#[], #[], []⟩ with heap := (((((((World.holding Tryd.prog os ⟨#[], #[], []⟩).heap.modify 0 (layTab #[.iface 121 (.agg #[.pointer (some ⟨7, 31, none⟩)])])).modify 2 (layTab (Lib.pow10Tab.map fun z => Value.int .u64 z).toArray)).modify 3 (layTab (Go.Pinned.utf8FirstZ.map fun z => Value.int .u8 (z : Nat)).toArray)).modify 4 (layTab (acc.map fun z => Value.int .u8 z).toArray)).modify 5 (layTab (de32.map fun z => Value.int .u8 z).toArray)).modify 6 (layTab (de64.map fun z => Value.int .u8 z).toArray)) }
/-- What the search asks of its one variable. -/
theorem maxlen {W : World} (h : W.ShapedOpen Tryd.prog) : ∃ m, W.cell? ⟨1, 0, none⟩ = some (.int .i64 m) := Tryd.laysM145.s1_3 W h
theorem string_reach {ts : List TypeId} {H : Type} {ds : List (DataW H)} (h : (DataW.weightsEach Tryd.prog ts ds).all (· ≤ reachBytes) = true) {j : Nat} {t : TypeId} {s : ByteArray} (ht : ts[j]? = some t) (hd : ds[j]? = some (.lit (.string s.data.toList))) : s.size ≤ 140737488351232 := by
  have := sized_string h ht hd
  rw [Array.length_toList] at this
  exact this
end Go.Proofs.YtbpgpjibljgiiaaDoor.cardK
namespace Go.Proofs.YtbpgpjibljgiiaaDoor.cardK
open Go.RowKit Go.ChangeShapes Go.WideShapes Go.ChangeAt
set_option linter.unusedVariables false
set_option linter.unusedSimpArgs false
section
variable {P : Program} {w : World} {base : Nat} {spare : Nat → Bool} {held : Bool} {H : Type} {enc : TypeId × Value → H}
/-- How many elements were read. -/
def dlen : DataW H → Nat
  | .slice es _ => es.length
  | _ => 0
theorem read_list {α : Type} {t e : TypeId} {fuel : Nat} {cs : List Value} {x : DataW H × List MemPlace} (ht : P.underlying t = some (.slice e)) (hc : 0 < P.cellsOf e) (Q : List Value → α → Prop)
    (hel : ∀ n cs x, DataW.trod enc P w base spare held n e cs = some x → ∃ a, Q cs a) (h : DataW.trod enc P w base spare held fuel t cs = some x) :
    ∃ v ys, cs = [v] ∧ RdS w v (P.cellsOf e) Q ys ∧ dlen x.1 = ys.length := by
  rcases Deep.open_slice ht h with ⟨rfl, rfl⟩ | ⟨a, len, cap, m, n, D, Pl, rfl, hb, hl, hm, hmm, rfl, hx⟩
  · exact ⟨_, [], rfl, ⟨none, 0, rfl, Nat.le_refl _, by decide, .inl rfl⟩, rfl⟩
  · have hlm : len ≤ m := by rw [hmm]; split <;> omega
    have hx' : ∀ i, i < len → ∃ y : α × List Value, w.cells? base (a.add (i * P.cellsOf e)) (P.cellsOf e) = some y.2 ∧ Q y.2 y.1 := fun i hi => by
      obtain ⟨cs', h1, h2⟩ := hx i (by omega)
      obtain ⟨b, hb⟩ := hel _ _ _ h2
      exact ⟨(b, cs'), h1, hb⟩
    by_cases h0 : len = 0
    · subst h0
      exact ⟨_, [], rfl, ⟨some a, cap, rfl, Nat.zero_le _, hm, .inl rfl⟩, by simp [dlen]⟩
    · obtain ⟨y0, hy0⟩ := hx' 0 (by omega)
      haveI : Inhabited (α × List Value) := ⟨y0⟩
      obtain ⟨F, hF⟩ := Deep.choose_lt hx'
      have hsp : a = ⟨a.block, a.off, none⟩ := by
        obtain ⟨_, hl2, hg⟩ := World.cells?_some hy0.1
        have h2 := hg 0 hc
        rw [List.getElem?_eq_getElem (by omega)] at h2
        have h3 : w.cell? a = some y0.2[0] := by simpa [Addr.add] using h2
        exact addr_of_cell h3
      refine ⟨_, (List.range len).map fun i => (F i).1, rfl, ⟨some a, cap, by simp, by simpa using hl, hm, .inr ⟨a.block, a.off, by rw [← hsp], fun k hk => ?_⟩⟩, by simp [dlen]⟩
      have hk' : k < len := by simpa using hk
      obtain ⟨h1, h2⟩ := hF k hk'
      obtain ⟨_, hl2, hg⟩ := World.cells?_some h1
      refine ⟨(F k).2, hl2, fun j u hu => ?_, by simpa using h2⟩
      have hj : j < P.cellsOf e := by rw [← hl2]; exact (List.getElem?_eq_some_iff.1 hu).1
      have h3 := hg j hj
      rw [hu, Deep.add_add] at h3
      rw [hsp] at h3
      simpa [Addr.add_lit, Nat.add_assoc] using h3
theorem sized_len {H : Type} {ts : List TypeId} {ds : List (DataW H)} (hsz : (DataW.weightsEach P ts ds).all (· ≤ reachBytes) = true) {j : Nat} {t e : TypeId} {d : DataW H} (ht : ts[j]? = some t) (hd : ds[j]? = some d) (hu : P.underlying t = some (.slice e)) : dlen d * P.bytesOf e ≤ 140737488351232 := by
  cases d with
  | slice es sp =>
    have h1 := sized_slice hsz ht hd hu
    have h5 : reachBytes = 140737488351232 := rfl
    rw [h5] at h1
    refine Nat.le_trans (Nat.mul_le_mul_right _ ?_) h1
    simp [dlen]
  | _ => simp [dlen]
end
/-- The parts of a struct that came in weigh no more than it may. -/
theorem sized_agg {P : Program} {H : Type} {ts : List TypeId} {ds : List (DataW H)} (hsz : (DataW.weightsEach P ts ds).all (· ≤ reachBytes) = true) {j : Nat} {t : TypeId} {fs : Array Field} {parts : List (DataW H)} (ht : ts[j]? = some t) (hd : ds[j]? = some (.agg parts)) (hu : P.underlying t = some (.struct fs)) :
    (DataW.weightsEach P (fs.toList.map (·.type)) parts).all (· ≤ reachBytes) = true := by
  rw [List.all_eq_true] at hsz ⊢
  intro n hn
  refine hsz n (DataW.weights_mem_each ht hd n ?_)
  unfold DataW.weights
  rw [hu]
  exact hn
theorem five_of {α : Type} {l : List α} (h : l.length = 5) : ∃ a b c d e, l = [a, b, c, d, e] := by
  match l, h with
  | [a, b, c, d, e], _ => exact ⟨a, b, c, d, e, rfl⟩
theorem cells5 : Tryd.prog.cellsOf 5 = 1 := by kernel_rfl
theorem cells44 : Tryd.prog.cellsOf 44 = 5 := by kernel_rfl
theorem bytes5 : Tryd.prog.bytesOf 5 = 1 := by kernel_rfl
section
variable {w : World} {H : Type} {enc : TypeId × Value → H} {base : Nat} {spare : Nat → Bool} {held : Bool}
theorem rds_bytes {v : Value} {l : List Int} (h : RdS w v 1 (fun cs (z : Int) => cs = [.int .u8 z] ∧ 0 ≤ z ∧ z < 256) l) : Rd w v (Sc.u8s l) ∧ Sc.Byt l := by
  have hl : (Sc.u8s l).length = l.length := by simp [Sc.u8s]
  obtain ⟨p, cap, rfl, h1, h2, h3⟩ := h
  refine ⟨⟨p, cap, by rw [hl], by rw [hl]; exact h1, ?_⟩, fun z hz => ?_⟩
  · rcases h3 with h3 | ⟨g, o, rfl, h3⟩
    · exact .inl (by rw [hl]; exact h3)
    · refine .inr ⟨g, o, rfl, fun k u hu => ?_⟩
      have hk : k < l.length := by rw [← hl]; exact (List.getElem?_eq_some_iff.1 hu).1
      obtain ⟨cs, h4, h5, h6, _⟩ := h3 k hk
      subst h6
      have := h5 0 (.int .u8 l[k]) rfl
      have hu' : u = .int .u8 l[k] := by simp [Sc.u8s, hk] at hu; exact hu.symm
      rw [hu']
      simpa using this
  · obtain ⟨k, hk, rfl⟩ := List.mem_iff_getElem.1 hz
    rcases h3 with h3 | ⟨g, o, rfl, h3⟩
    · omega
    · obtain ⟨cs, h4, h5, h6⟩ := h3 k hk
      exact h6.2
theorem read_bytes {fuel : Nat} {cs : List Value} {x : DataW H × List MemPlace} (h : DataW.trod enc Tryd.prog w base spare held fuel 42 cs = some x) :
    ∃ v l, cs = [v] ∧ Rd w v (Sc.u8s l) ∧ Sc.Byt l ∧ dlen x.1 = l.length := by
  obtain ⟨v, l, h1, h2, h3⟩ := read_list Tryd.underlying42 (by rw [cells5]; decide) (fun cs (z : Int) => cs = [.int .u8 z] ∧ 0 ≤ z ∧ z < 256) (fun n cs x hx => by
    obtain ⟨z, hz, hw⟩ := read_int Tryd.underlying5 hx
    have := bounds_u8 hw
    exact ⟨z, hz, this.1, by omega⟩) h
  rw [cells5] at h2
  obtain ⟨h4, h5⟩ := rds_bytes h2
  exact ⟨v, l, h1, h4, h5, h3⟩
set_option maxRecDepth 100000 in
theorem read_step {fuel : Nat} {cs : List Value} {x : DataW H × List MemPlace} (h : DataW.trod enc Tryd.prog w base spare held fuel 44 cs = some x) :
    ∃ (s : Sc.St) (p : Option Addr) (c : Nat) (d0 d1 d2 d3 d4 : DataW H), cs = s.cells (.slice p s.by'.length c) ∧ Sc.StI s ∧ Rd w (.slice p s.by'.length c) (Sc.u8s s.by') ∧ x.1 = .agg [d0, d1, d2, d3, d4] ∧ dlen d4 = s.by'.length := by
  obtain ⟨xs, m, _, hx, hl, hlen, hf⟩ := DataW.trod_struct Tryd.underlying44 h
  rw [cells44] at hl
  obtain ⟨b0, b1, b2, b3, b4, rfl⟩ := five_of hl
  have hlen : xs.length = 5 := hlen
  obtain ⟨y0, y1, y2, y3, y4, rfl⟩ := five_of hlen
  obtain ⟨n0, h0, w0⟩ := read_int (cs := [b0]) Tryd.underlying41 (hf 0 _ rfl)
  obtain ⟨n1, h1, w1⟩ := read_int (cs := [b1]) Tryd.underlying3 (hf 1 _ rfl)
  obtain ⟨n2, h2, w2⟩ := read_int (cs := [b2]) Tryd.underlying3 (hf 2 _ rfl)
  obtain ⟨n3, h3, w3⟩ := read_int (cs := [b3]) Tryd.underlying3 (hf 3 _ rfl)
  obtain ⟨v, l, h4, r1, r2, r3⟩ := read_bytes (cs := [b4]) (hf 4 _ rfl)
  obtain rfl : b0 = .int .u8 n0 := by simpa using h0
  obtain rfl : b1 = .int .i64 n1 := by simpa using h1
  obtain rfl : b2 = .int .i64 n2 := by simpa using h2
  obtain rfl : b3 = .int .i64 n3 := by simpa using h3
  obtain rfl : b4 = v := by simpa using h4
  have q0 := bounds_u8 w0
  have r1' := r1
  obtain ⟨p, c, hv, -⟩ := r1
  have hv' : b4 = .slice p l.length c := by rw [hv]; simp [Sc.u8s]
  subst hv'
  refine ⟨⟨n0.toNat, n1, n2, n3, l⟩, p, c, _, _, _, _, _, ?_, ⟨by show n0.toNat < 256; omega, bounds_i64 w1, bounds_i64 w2, bounds_i64 w3, r2⟩, r1', by rw [hx]; rfl, r3⟩
  show [Value.int .u8 n0, .int .i64 n1, .int .i64 n2, .int .i64 n3, _] = [Value.int .u8 (n0.toNat : Nat), .int .i64 n1, .int .i64 n2, .int .i64 n3, _]
  rw [show ((n0.toNat : Nat) : Int) = n0 by omega]
end
theorem gPowType : (Tryd.prog.globals[2]?).map (·.type) = some 166 := by kernel_rfl
theorem cells166 : Tryd.prog.cellsOf 166 = 20 := by kernel_rfl
theorem und166 : ∃ e, Tryd.prog.underlying 166 = some (.array 20 e) ∧ Tryd.prog.underlying e = some (.int .u64) ∧ Tryd.prog.cellsOf e = 1 := ⟨153, by kernel_rfl, by kernel_rfl, by kernel_rfl⟩
theorem tb_of {W : World} {L : List (String × DataW Unit)} (h : laidMetH Tryd.prog L W) (e : L.filter (fun x => x.1 == "internal/strconv.uint64pow10") = [("internal/strconv.uint64pow10", Rows.laid_internal_strconv_uint64pow10)]) : TB W := by
  have h1 := h.filter (fun x => x.1 == "internal/strconv.uint64pow10")
  rw [e, show Rows.laid_internal_strconv_uint64pow10 = Lib.tabData (H := Unit) .u64 Lib.pow10Tab from rfl] at h1
  obtain ⟨t, h2, h3, h4⟩ := und166
  exact Lib.tabIs_of_head (rest := []) gPow gPowType h2 h3 h4 cells166 h1
end Go.Proofs.YtbpgpjibljgiiaaDoor.cardK
namespace Go.Proofs.YtbpgpjibljgiiaaDoor.cardK
open Go.RowKit Go.ChangeShapes Go.WideShapes Go.ChangeAt
set_option linter.unusedVariables false
set_option linter.unusedSimpArgs false
theorem weightsAll_mem {P : Program} {H : Type} {e : TypeId} : ∀ {es : List (DataW H)} {d : DataW H}, d ∈ es → ∀ n ∈ d.weights P e, n ∈ DataW.weightsAll P e es
  | x :: r, d, h, n, hn => by
    unfold DataW.weightsAll
    rcases List.mem_cons.1 h with rfl | h
    · exact List.mem_append_left _ hn
    · exact List.mem_append_right _ (weightsAll_mem h n hn)
theorem two_of {α : Type} {l : List α} (h : l.length = 2) : ∃ a b, l = [a, b] := by
  match l, h with
  | [a, b], _ => exact ⟨a, b, rfl⟩
theorem eleven_of {α : Type} {l : List α} (h : l.length = 11) : ∃ a b c d e f g i j k m, l = [a, b, c, d, e, f, g, i, j, k, m] := by
  match l, h with
  | [a, b, c, d, e, f, g, i, j, k, m], _ => exact ⟨a, b, c, d, e, f, g, i, j, k, m, rfl⟩
theorem twelve_of {α : Type} {l : List α} (h : l.length = 12) : ∃ a b c d e f g i j k m n, l = [a, b, c, d, e, f, g, i, j, k, m, n] := by
  match l, h with
  | [a, b, c, d, e, f, g, i, j, k, m, n], _ => exact ⟨a, b, c, d, e, f, g, i, j, k, m, n, rfl⟩
theorem cells29 : Tryd.prog.cellsOf 29 = 12 := by kernel_rfl
theorem cells26 : Tryd.prog.cellsOf 26 = 11 := by kernel_rfl
theorem bytes44 : Tryd.prog.bytesOf 44 = 56 := by kernel_rfl
section
variable {w : World} {H : Type} {enc : TypeId × Value → H} {base : Nat} {spare : Nat → Bool} {held : Bool}
theorem read_steps {fuel : Nat} {cs : List Value} {x : DataW H × List MemPlace} (h : DataW.trod enc Tryd.prog w base spare held fuel 27 cs = some x) (hsz : (x.1.weights Tryd.prog 27).all (· ≤ reachBytes) = true) :
    ∃ (v : Value) (C : List (Sc.St × Value)), cs = [v] ∧ Sc.RdT w v C ∧ (∀ y ∈ C, Sc.StI y.1) ∧ (∀ y ∈ C, y.1.by'.length ≤ 140737488351232) ∧ C.length ≤ 2513169434843 := by
  rcases Deep.open_slice Tryd.underlying27 h with ⟨rfl, rfl⟩ | ⟨a, len, cap, m, n, D, Pl, rfl, hb, hl, hm, hmm, rfl, hx⟩
  · exact ⟨_, [], rfl, ⟨⟨none, 0, rfl, Nat.le_refl _, .inl rfl⟩, fun x hx => by simp at hx⟩, by simp, by simp, by simp⟩
  · have hlm : len ≤ m := by rw [hmm]; split <;> omega
    have hr : reachBytes = 140737488351232 := rfl
    simp only [DataW.weights, Tryd.underlying27] at hsz
    rw [List.all_eq_true] at hsz
    have hlen : len * 56 ≤ 140737488351232 := by
      have h1 := hsz _ (List.mem_cons_self ..)
      rw [bytes44, decide_eq_true_eq, hr] at h1
      refine Nat.le_trans (Nat.mul_le_mul_right _ ?_) h1
      simp
    rw [cells44] at hx
    have hx' : ∀ i, i < len → ∃ y : Sc.St × Value, w.cells? base (a.add (i * 5)) 5 = some (y.1.cells y.2) ∧ Sc.StI y.1 ∧ Rd w y.2 (Sc.u8s y.1.by') ∧ y.1.by'.length ≤ 140737488351232 := fun i hi => by
      obtain ⟨cs', h1, h2⟩ := hx i (by omega)
      obtain ⟨s, p, c, d0, d1, d2, d3, d4, rfl, hst, hrd, hD, hdl⟩ := read_step h2
      have hw : (DataW.weightsEach Tryd.prog [44] [D i]).all (· ≤ reachBytes) = true := by
        rw [List.all_eq_true]
        intro k hk
        refine hsz k (List.mem_cons_of_mem _ (List.mem_append_left _ (weightsAll_mem (d := D i) (List.mem_map.2 ⟨i, List.mem_range.2 hi, rfl⟩) k ?_)))
        simpa [DataW.weightsEach] using hk
      have hD' : D i = .agg [d0, d1, d2, d3, d4] := hD
      have hlen := sized_len (sized_agg hw (j := 0) (t := 44) rfl (by rw [hD']; rfl) Tryd.underlying44) (j := 4) (t := 42) (e := 5) (d := d4) rfl rfl Tryd.underlying42
      rw [hdl, bytes5] at hlen
      exact ⟨(s, _), h1, hst, hrd, by show s.by'.length ≤ _; omega⟩
    by_cases h0 : len = 0
    · subst h0
      exact ⟨_, [], rfl, ⟨⟨some a, cap, rfl, Nat.zero_le _, .inl rfl⟩, fun x hx => by simp at hx⟩, by simp, by simp, by simp⟩
    · obtain ⟨y0, hy0⟩ := hx' 0 (by omega)
      haveI : Inhabited (Sc.St × Value) := ⟨y0⟩
      obtain ⟨F, hF⟩ := Deep.choose_lt hx'
      have hsp : a = ⟨a.block, a.off, none⟩ := by
        obtain ⟨_, hl2, hg⟩ := World.cells?_some hy0.1
        have h2 := hg 0 (by decide)
        rw [show (y0.1.cells y0.2)[0]? = some (Value.int .u8 y0.1.kd) from rfl] at h2
        have h3 : w.cell? a = some (Value.int .u8 y0.1.kd) := by simpa [Addr.add] using h2
        exact addr_of_cell h3
      have hmem : ∀ y ∈ (List.range len).map F, ∃ i, i < len ∧ y = F i := fun y hy => by
        obtain ⟨i, hi, rfl⟩ := List.mem_map.1 hy
        exact ⟨i, List.mem_range.1 hi, rfl⟩
      refine ⟨_, (List.range len).map F, rfl, ⟨⟨some a, cap, by simp, by simpa using hl, .inr ⟨a.block, a.off, by rw [← hsp], fun k y hk j u hu => ?_⟩⟩, fun y hy => ?_⟩, fun y hy => ?_, fun y hy => ?_, by simp; omega⟩
      · have hk' : k < len := by
          have := (List.getElem?_eq_some_iff.1 hk).1
          simpa using this
        have hy : y = F k := by simp [hk'] at hk; exact hk.symm
        subst hy
        obtain ⟨_, hl2, hg⟩ := World.cells?_some (hF k hk').1
        have hj : j < 5 := by
          have := (List.getElem?_eq_some_iff.1 hu).1
          simpa [Sc.St.cells] using this
        have h3 := hg j hj
        rw [hu, Deep.add_add] at h3
        rw [hsp] at h3
        simpa [Addr.add_lit, Nat.add_assoc] using h3
      · obtain ⟨i, hi, rfl⟩ := hmem y hy
        exact (hF i hi).2.2.1
      · obtain ⟨i, hi, rfl⟩ := hmem y hy
        exact (hF i hi).2.1
      · obtain ⟨i, hi, rfl⟩ := hmem y hy
        exact (hF i hi).2.2.2
set_option maxRecDepth 100000 in
theorem read_script {fuel : Nat} {cs : List Value} {x : DataW H × List MemPlace} (h : DataW.trod enc Tryd.prog w base spare held fuel 29 cs = some x) (hsz : (x.1.weights Tryd.prog 29).all (· ≤ reachBytes) = true) :
    ∃ (v0 v1 v2 v3 v4 v5 v6 v7 v8 v9 v10 : Int) (v : Value) (C : List (Sc.St × Value)), cs = [.int .i64 v0, .int .i64 v1, .int .i64 v2, .int .i64 v3, .int .i64 v4, .int .i64 v5, .int .i64 v6, .int .i64 v7, .int .i64 v8, .int .i64 v9, .int .i64 v10, v] ∧
      (∀ n ∈ [v0, v1, v2, v3, v4, v5, v6, v7, v8, v9, v10], -9223372036854775808 ≤ n ∧ n ≤ 9223372036854775807) ∧ Sc.RdT w v C ∧ (∀ y ∈ C, Sc.StI y.1) ∧ (∀ y ∈ C, y.1.by'.length ≤ 140737488351232) ∧ C.length ≤ 2513169434843 := by
  obtain ⟨xs, m, _, hx, hl, hlen, hf⟩ := DataW.trod_struct Tryd.underlying29 h
  rw [cells29] at hl
  obtain ⟨b0, b1, b2, b3, b4, b5, b6, b7, b8, b9, b10, b11, rfl⟩ := twelve_of hl
  have hlen : xs.length = 2 := hlen
  obtain ⟨y0, y1, rfl⟩ := two_of hlen
  have h26 : DataW.trod enc Tryd.prog w base spare held m 26 [b0, b1, b2, b3, b4, b5, b6, b7, b8, b9, b10] = some y0 := hf 0 _ rfl
  have h27 : DataW.trod enc Tryd.prog w base spare held m 27 [b11] = some y1 := hf 1 _ rfl
  have hx1 : x.1 = .agg [y0.1, y1.1] := by rw [hx]; rfl
  have hsz2 : (y1.1.weights Tryd.prog 27).all (· ≤ reachBytes) = true := by
    rw [hx1] at hsz
    simp only [DataW.weights, Tryd.underlying29] at hsz
    rw [List.all_eq_true] at hsz ⊢
    exact fun n hn => hsz n (DataW.weights_mem_each (j := 1) (t := 27) rfl rfl n hn)
  obtain ⟨v, C, hv, r1, r2, r3, r4⟩ := read_steps h27 hsz2
  obtain rfl : b11 = v := by simpa using hv
  obtain ⟨zs, m', _, hz, hl2, hlen2, hg⟩ := DataW.trod_struct Tryd.underlying26 h26
  have hlen2 : zs.length = 11 := hlen2
  obtain ⟨z0, z1, z2, z3, z4, z5, z6, z7, z8, z9, z10, rfl⟩ := eleven_of hlen2
  obtain ⟨n0, h0, w0⟩ := read_int (cs := [b0]) Tryd.underlying3 (hg 0 _ rfl)
  obtain rfl : b0 = .int .i64 n0 := by simpa using h0
  obtain ⟨n1, h1, w1⟩ := read_int (cs := [b1]) Tryd.underlying3 (hg 1 _ rfl)
  obtain rfl : b1 = .int .i64 n1 := by simpa using h1
  obtain ⟨n2, h2, w2⟩ := read_int (cs := [b2]) Tryd.underlying3 (hg 2 _ rfl)
  obtain rfl : b2 = .int .i64 n2 := by simpa using h2
  obtain ⟨n3, h3, w3⟩ := read_int (cs := [b3]) Tryd.underlying3 (hg 3 _ rfl)
  obtain rfl : b3 = .int .i64 n3 := by simpa using h3
  obtain ⟨n4, h4, w4⟩ := read_int (cs := [b4]) Tryd.underlying3 (hg 4 _ rfl)
  obtain rfl : b4 = .int .i64 n4 := by simpa using h4
  obtain ⟨n5, h5, w5⟩ := read_int (cs := [b5]) Tryd.underlying3 (hg 5 _ rfl)
  obtain rfl : b5 = .int .i64 n5 := by simpa using h5
  obtain ⟨n6, h6, w6⟩ := read_int (cs := [b6]) Tryd.underlying3 (hg 6 _ rfl)
  obtain rfl : b6 = .int .i64 n6 := by simpa using h6
  obtain ⟨n7, h7, w7⟩ := read_int (cs := [b7]) Tryd.underlying3 (hg 7 _ rfl)
  obtain rfl : b7 = .int .i64 n7 := by simpa using h7
  obtain ⟨n8, h8, w8⟩ := read_int (cs := [b8]) Tryd.underlying3 (hg 8 _ rfl)
  obtain rfl : b8 = .int .i64 n8 := by simpa using h8
  obtain ⟨n9, h9, w9⟩ := read_int (cs := [b9]) Tryd.underlying2 (hg 9 _ rfl)
  obtain rfl : b9 = .int .i64 n9 := by simpa using h9
  obtain ⟨n10, h10, w10⟩ := read_int (cs := [b10]) Tryd.underlying3 (hg 10 _ rfl)
  obtain rfl : b10 = .int .i64 n10 := by simpa using h10
  refine ⟨n0, n1, n2, n3, n4, n5, n6, n7, n8, n9, n10, _, C, rfl, fun n hn => ?_, r1, r2, r3, r4⟩
  simp only [List.mem_cons, List.not_mem_nil, or_false] at hn
  rcases hn with rfl | rfl | rfl | rfl | rfl | rfl | rfl | rfl | rfl | rfl | rfl
  · exact bounds_i64 w0
  · exact bounds_i64 w1
  · exact bounds_i64 w2
  · exact bounds_i64 w3
  · exact bounds_i64 w4
  · exact bounds_i64 w5
  · exact bounds_i64 w6
  · exact bounds_i64 w7
  · exact bounds_i64 w8
  · exact bounds_i64 w9
  · exact bounds_i64 w10
end
end Go.Proofs.YtbpgpjibljgiiaaDoor.cardK
