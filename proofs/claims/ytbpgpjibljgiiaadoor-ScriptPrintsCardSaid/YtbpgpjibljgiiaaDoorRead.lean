/-
  How an argument reads, in words that a walk can use; and what closes a law: it answers true, nothing that was there has turned. No statement about the program stands here.
-/
import Derived.Test.YtbpgpjibljgiiaaDoorKit
import Derived.ProofKit
import Derived.OpenShut
import Derived.Deep.Slices
import Derived.Carry
import Derived.Lib.SmallJoins
namespace Go.Proofs.YtbpgpjibljgiiaaDoor
open Go.RowKit Go.ChangeShapes Go.WideShapes Go.ChangeAt
set_option linter.unusedVariables false

/-- A slice whose elements, 'size' cells each, are as Q says of the list 'as'; nil or not. -/
def RdS {α : Type} (w : World) (v : Value) (size : Nat) (Q : List Value → α → Prop) (as : List α) : Prop :=
  ∃ p cap, v = .slice p as.length cap ∧ as.length ≤ cap ∧ cap ≤ maxLen ∧
    (as.length = 0 ∨ ∃ g o, p = some ⟨g, o, none⟩ ∧ ∀ k (hk : k < as.length), ∃ cs, cs.length = size ∧ (∀ j u, cs[j]? = some u → w.cell? ⟨g, o + k * size + j, none⟩ = some u) ∧ Q cs as[k])

section
variable {H : Type} {enc : TypeId × Value → H} {P : Program} {w : World} {base : Nat} {spare : Nat → Bool} {held : Bool}

theorem addr_of_cell {a : Addr} {v : Value} (h : w.cell? a = some v) : a = ⟨a.block, a.off, none⟩ := by
  obtain ⟨b, o, s⟩ := a
  unfold World.cell? at h
  split at h
  · cases s with
    | none => rfl
    | some x => simp at h
  · cases h
theorem read_slice {α : Type} {t e : TypeId} {fuel : Nat} {cs : List Value} {x : DataW H × List MemPlace} (ht : P.underlying t = some (.slice e)) (hc : 0 < P.cellsOf e) (Q : List Value → α → Prop)
    (hel : ∀ n cs x, DataW.trod enc P w base spare held n e cs = some x → ∃ a, Q cs a) (h : DataW.trod enc P w base spare held fuel t cs = some x) :
    ∃ v as, cs = [v] ∧ RdS w v (P.cellsOf e) Q as := by
  rcases Deep.open_slice ht h with ⟨rfl, _⟩ | ⟨a, len, cap, m, n, D, Pl, rfl, hb, hl, hm, hmm, rfl, hx⟩
  · exact ⟨_, [], rfl, none, 0, rfl, Nat.le_refl _, by decide, .inl rfl⟩
  · have hlm : len ≤ m := by rw [hmm]; split <;> omega
    have hx' : ∀ i, i < len → ∃ y : α × List Value, w.cells? base (a.add (i * P.cellsOf e)) (P.cellsOf e) = some y.2 ∧ Q y.2 y.1 := fun i hi => by
      obtain ⟨cs', h1, h2⟩ := hx i (by omega)
      obtain ⟨b, hb⟩ := hel _ _ _ h2
      exact ⟨(b, cs'), h1, hb⟩
    by_cases h0 : len = 0
    · subst h0
      exact ⟨_, [], rfl, some a, cap, rfl, Nat.zero_le _, hm, .inl rfl⟩
    · obtain ⟨y0, hy0⟩ := hx' 0 (by omega)
      haveI : Inhabited (α × List Value) := ⟨y0⟩
      obtain ⟨F, hF⟩ := Deep.choose_lt hx'
      have hsp : a = ⟨a.block, a.off, none⟩ := by
        obtain ⟨_, hl2, hg⟩ := World.cells?_some hy0.1
        have h2 := hg 0 hc
        rw [List.getElem?_eq_getElem (by omega)] at h2
        have h3 : w.cell? a = some y0.2[0] := by simpa [Addr.add] using h2
        exact addr_of_cell h3
      refine ⟨_, (List.range len).map fun i => (F i).1, rfl, some a, cap, by simp, by simpa using hl, hm, .inr ⟨a.block, a.off, by rw [← hsp], fun k hk => ?_⟩⟩
      have hk' : k < len := by simpa using hk
      obtain ⟨h1, h2⟩ := hF k hk'
      obtain ⟨_, hl2, hg⟩ := World.cells?_some h1
      refine ⟨(F k).2, hl2, fun j u hu => ?_, by simpa using h2⟩
      have hj : j < P.cellsOf e := by rw [← hl2]; exact (List.getElem?_eq_some_iff.1 hu).1
      have h3 := hg j hj
      rw [hu, Deep.add_add] at h3
      rw [hsp] at h3
      simpa [Addr.add_lit, Nat.add_assoc] using h3

/-- An argument of a struct's type: its cells. -/
theorem open_agg {r : Reach} {b0 : Nat} {t : TypeId} {fs : Array Field} {v : Value} {d : DataW H} {p : List MemPlace} (hs : P.underlying t = some (.struct fs)) (hv : Value.okWide P w r b0 t v) (h : DataW.Trod enc P w base spare held t v d p) :
    ∃ fuel l, v = .agg (List.toArray l) ∧ DataW.trod enc P w base spare held fuel t l = some (d, p) := by
  obtain ⟨cs, rfl, hsz⟩ := okWide_struct hs hv
  obtain ⟨fuel, hf⟩ := h
  exact ⟨fuel, cs.toList, by simp, hf⟩
theorem read_bool {t : TypeId} {fuel : Nat} {cs : List Value} {x : DataW H × List MemPlace} (ht : P.underlying t = some .bool) (h : DataW.trod enc P w base spare held fuel t cs = some x) : ∃ b : Bool, cs = [.bool b] := by
  obtain ⟨b, h1, _⟩ := DataW.trod_bool ht h; exact ⟨b, h1⟩
theorem read_int {t : TypeId} {k : IntKind} {fuel : Nat} {cs : List Value} {x : DataW H × List MemPlace} (ht : P.underlying t = some (.int k)) (h : DataW.trod enc P w base spare held fuel t cs = some x) : ∃ n : Int, cs = [.int k n] ∧ (Lit.int k n).wf = true := by
  obtain ⟨n, h1, _, h2⟩ := DataW.trod_int ht h; exact ⟨n, h1, h2⟩
theorem read_string {t : TypeId} {fuel : Nat} {cs : List Value} {x : DataW H × List MemPlace} (ht : P.underlying t = some .string) (h : DataW.trod enc P w base spare held fuel t cs = some x) : ∃ s : ByteArray, cs = [.string s] ∧ s.size ≤ maxLen := by
  obtain ⟨s, h1, _, h2⟩ := DataW.trod_string ht h; exact ⟨s, h1, h2⟩

/-- A slice of bools. -/
theorem read_bools {t e : TypeId} {fuel : Nat} {cs : List Value} {x : DataW H × List MemPlace} (ht : P.underlying t = some (.slice e)) (he : P.underlying e = some .bool) (hc : P.cellsOf e = 1) (h : DataW.trod enc P w base spare held fuel t cs = some x) :
    ∃ v bs, cs = [v] ∧ RdS w v 1 (fun cs (b : Bool) => cs = [.bool b]) bs := by
  have := read_slice ht (by omega) (fun cs (b : Bool) => cs = [.bool b]) (fun n cs x hx => read_bool he hx) h
  rwa [hc] at this
end

theorem RdS.get {α : Type} {w : World} {v : Value} {size : Nat} {Q : List Value → α → Prop} {as : List α} (h : RdS w v size Q as) {k : Nat} (hk : k < as.length) :
    ∃ g o cap cs, v = .slice (some ⟨g, o, none⟩) as.length cap ∧ as.length ≤ cap ∧ cap ≤ maxLen ∧ cs.length = size ∧ (∀ j u, cs[j]? = some u → w.cell? ⟨g, o + k * size + j, none⟩ = some u) ∧ Q cs as[k] := by
  obtain ⟨p, cap, rfl, h1, h2, h3⟩ := h
  obtain ⟨g, o, rfl, h3'⟩ := h3.resolve_left (by omega)
  obtain ⟨cs, h4, h5, h6⟩ := h3' k hk
  exact ⟨g, o, cap, cs, rfl, h1, h2, h4, h5, h6⟩
theorem RdS.form {α : Type} {w : World} {v : Value} {size : Nat} {Q : List Value → α → Prop} {as : List α} (h : RdS w v size Q as) : ∃ p cap, v = .slice p as.length cap ∧ as.length ≤ cap ∧ cap ≤ maxLen := by
  obtain ⟨p, cap, rfl, h1, h2, _⟩ := h
  exact ⟨p, cap, rfl, h1, h2⟩
theorem RdS.bools {w : World} {v : Value} {bs : List Bool} (h : RdS w v 1 (fun cs (b : Bool) => cs = [.bool b]) bs) : Rd w v (bools bs) ∧ bs.length ≤ maxLen := by
  obtain ⟨p, cap, rfl, h1, h2, h3⟩ := h
  refine ⟨⟨p, cap, by rw [bools_len], by rw [bools_len]; exact h1, ?_⟩, by omega⟩
  rcases h3 with h3 | ⟨g, o, rfl, h3⟩
  · exact .inl (by rw [bools_len]; exact h3)
  · refine .inr ⟨g, o, rfl, fun k u hu => ?_⟩
    have hk : k < bs.length := by rw [← bools_len]; exact (List.getElem?_eq_some_iff.1 hu).1
    obtain ⟨cs, h4, h5, rfl⟩ := h3 k hk
    rw [bools_get bs hk] at hu
    cases hu
    have := h5 0 (.bool bs[k]) rfl
    simpa [List.getD_eq_getElem?_getD, hk] using this

/-! ### the close of a law -/
section
variable {H : Type} {enc : TypeId × Value → H} {P : Program}
theorem trodAll_stays (hl : laidOutB P = true) {W W' : World} (hb : Below W.heap.size W W') : ∀ {ts : List TypeId} {vs : List Value} {ds : List (DataW H)} {ps : List MemPlace},
    (∀ t, t ∈ ts → P.readableRec t = true ∧ t < P.types.size) → DataW.TrodAll enc P W 0 (fun _ => true) true ts vs ds ps → (∀ x, x ∈ ps → x.block < W.heap.size) →
    DataW.TrodAll enc P W' 0 (fun b => decide (b < W.heap.size)) true ts vs ds ps
  | [], [], [], _, _, h, _ => h
  | t :: ts, v :: vs, d :: ds, _, hr, ⟨p, q, h1, h2, rfl⟩, hlt =>
    ⟨p, q, Below.trod hl (hr t (by simp)).1 (hr t (by simp)).2 h1 hb (fun x hx => hlt x (by simp [hx])), trodAll_stays hl hb (fun t' ht' => hr t' (by simp [ht'])) h2 (fun x hx => hlt x (by simp [hx])), rfl⟩
  | [], [], _ :: _, _, _, h, _ => h.elim
  | [], _ :: _, _, _, _, h, _ => by cases h
  | _ :: _, [], _, _, _, h, _ => by cases h
  | _ :: _, _ :: _, [], _, _, h, _ => by cases h

theorem law_post {f : Func} {s : ChangeSpec} {W W' : World} {args : Array Value} {ds gs : List (DataW H)} {before : List MemPlace} {tb : TypeId}
    (hl : laidOutB P = true) (hr : ∀ t, t ∈ f.params.toList → P.readableRec t = true ∧ t < P.types.size) (hv : s.vars = []) (hbt : P.underlying tb = some .bool) (hres : f.resultTypes = #[tb])
    (hW : DataW.Whole enc P f.params.toList s.vars false W args.toList ds gs before) (hfn : s.fn H (ds ++ gs) = { results := [.lit (.bool true)], args := ds }) (hb : Fr [] W W') :
    s.post enc P f false true false false W args (.bool true) W' := by
  have hlt : ∀ x, x ∈ before → x.block < W.heap.size := fun x hx => hW.lt x hx
  obtain ⟨p, q, hA, hV, rfl, hz, hn⟩ := hW
  have hq : q = [] := by
    rw [hv] at hV
    cases gs with
    | nil => exact hV
    | cons g gs => exact hV.elim
  subst hq
  refine ⟨ds, gs, p ++ [], [], p, [], ⟨p, [], hA, hV, rfl, hz, hn⟩, ?_, ?_, ?_, World.keptBut_mono (fun _ h => h.elim) (hb.below.frame (fun _ => False)), fun h => by cases h⟩
  · rw [hfn, hres]
    exact trodAll_cons_mk (shut_bool hbt true) trodAll_mk0
  · rw [hfn]
    exact trodAll_stays hl hb.below hr hA (fun x hx => hlt x (by simp [hx]))
  · rw [hfn]
    rw [hv] at hV ⊢
    cases gs with
    | nil => rfl
    | cons g gs => exact hV.elim
end
end Go.Proofs.YtbpgpjibljgiiaaDoor
