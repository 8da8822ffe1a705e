/-
  What the cards of steps read: bytes, a step, with their sizes; the listed variables of ScriptLines.
-/
import Derived.Test.YtbpgpjibljgiiaaDoorCdK
import Derived.Test.YtbpgpjibljgiiaaDoorLsA
namespace Go.Proofs.YtbpgpjibljgiiaaDoor.cardK
open Go.RowKit Go.ChangeShapes Go.WideShapes Go.ChangeAt
set_option linter.unusedVariables false
set_option linter.unusedSimpArgs false
section
variable {P : Program} {w : World} {base : Nat} {spare : Nat → Bool} {held : Bool} {H : Type} {enc : TypeId × Value → H}
/-- How many elements were read. -/
def dlen : DataW H → Nat
  | .slice es _ => es.length
  | _ => 0
theorem read_list {α : Type} {t e : TypeId} {fuel : Nat} {cs : List Value} {x : DataW H × List MemPlace} (ht : P.underlying t = some (.slice e)) (hc : 0 < P.cellsOf e) (Q : List Value → α → Prop)
    (hel : ∀ n cs x, DataW.trod enc P w base spare held n e cs = some x → ∃ a, Q cs a) (h : DataW.trod enc P w base spare held fuel t cs = some x) :
    ∃ v ys, cs = [v] ∧ RdS w v (P.cellsOf e) Q ys ∧ dlen x.1 = ys.length := by
  rcases Deep.open_slice ht h with ⟨rfl, rfl⟩ | ⟨a, len, cap, m, n, D, Pl, rfl, hb, hl, hm, hmm, rfl, hx⟩
  · exact ⟨_, [], rfl, ⟨none, 0, rfl, Nat.le_refl _, by decide, .inl rfl⟩, rfl⟩
  · have hlm : len ≤ m := by rw [hmm]; split <;> omega
    have hx' : ∀ i, i < len → ∃ y : α × List Value, w.cells? base (a.add (i * P.cellsOf e)) (P.cellsOf e) = some y.2 ∧ Q y.2 y.1 := fun i hi => by
      obtain ⟨cs', h1, h2⟩ := hx i (by omega)
      obtain ⟨b, hb⟩ := hel _ _ _ h2
      exact ⟨(b, cs'), h1, hb⟩
    by_cases h0 : len = 0
    · subst h0
      exact ⟨_, [], rfl, ⟨some a, cap, rfl, Nat.zero_le _, hm, .inl rfl⟩, by simp [dlen]⟩
    · obtain ⟨y0, hy0⟩ := hx' 0 (by omega)
      haveI : Inhabited (α × List Value) := ⟨y0⟩
      obtain ⟨F, hF⟩ := Deep.choose_lt hx'
      have hsp : a = ⟨a.block, a.off, none⟩ := by
        obtain ⟨_, hl2, hg⟩ := World.cells?_some hy0.1
        have h2 := hg 0 hc
        rw [List.getElem?_eq_getElem (by omega)] at h2
        have h3 : w.cell? a = some y0.2[0] := by simpa [Addr.add] using h2
        exact addr_of_cell h3
      refine ⟨_, (List.range len).map fun i => (F i).1, rfl, ⟨some a, cap, by simp, by simpa using hl, hm, .inr ⟨a.block, a.off, by rw [← hsp], fun k hk => ?_⟩⟩, by simp [dlen]⟩
      have hk' : k < len := by simpa using hk
      obtain ⟨h1, h2⟩ := hF k hk'
      obtain ⟨_, hl2, hg⟩ := World.cells?_some h1
      refine ⟨(F k).2, hl2, fun j u hu => ?_, by simpa using h2⟩
      have hj : j < P.cellsOf e := by rw [← hl2]; exact (List.getElem?_eq_some_iff.1 hu).1
      have h3 := hg j hj
      rw [hu, Deep.add_add] at h3
      rw [hsp] at h3
      simpa [Addr.add_lit, Nat.add_assoc] using h3
theorem sized_len {H : Type} {ts : List TypeId} {ds : List (DataW H)} (hsz : (DataW.weightsEach P ts ds).all (· ≤ reachBytes) = true) {j : Nat} {t e : TypeId} {d : DataW H} (ht : ts[j]? = some t) (hd : ds[j]? = some d) (hu : P.underlying t = some (.slice e)) : dlen d * P.bytesOf e ≤ 140737488351232 := by
  cases d with
  | slice es sp =>
    have h1 := sized_slice hsz ht hd hu
    have h5 : reachBytes = 140737488351232 := rfl
    rw [h5] at h1
    refine Nat.le_trans (Nat.mul_le_mul_right _ ?_) h1
    simp [dlen]
  | _ => simp [dlen]
end
/-- The parts of a struct that came in weigh no more than it may. -/
theorem sized_agg {P : Program} {H : Type} {ts : List TypeId} {ds : List (DataW H)} (hsz : (DataW.weightsEach P ts ds).all (· ≤ reachBytes) = true) {j : Nat} {t : TypeId} {fs : Array Field} {parts : List (DataW H)} (ht : ts[j]? = some t) (hd : ds[j]? = some (.agg parts)) (hu : P.underlying t = some (.struct fs)) :
    (DataW.weightsEach P (fs.toList.map (·.type)) parts).all (· ≤ reachBytes) = true := by
  rw [List.all_eq_true] at hsz ⊢
  intro n hn
  refine hsz n (DataW.weights_mem_each ht hd n ?_)
  unfold DataW.weights
  rw [hu]
  exact hn
theorem five_of {α : Type} {l : List α} (h : l.length = 5) : ∃ a b c d e, l = [a, b, c, d, e] := by
  match l, h with
  | [a, b, c, d, e], _ => exact ⟨a, b, c, d, e, rfl⟩
theorem cells5 : Tryd.prog.cellsOf 5 = 1 := by kernel_rfl
theorem cells44 : Tryd.prog.cellsOf 44 = 5 := by kernel_rfl
theorem bytes5 : Tryd.prog.bytesOf 5 = 1 := by kernel_rfl
section
variable {w : World} {H : Type} {enc : TypeId × Value → H} {base : Nat} {spare : Nat → Bool} {held : Bool}
theorem rds_bytes {v : Value} {l : List Int} (h : RdS w v 1 (fun cs (z : Int) => cs = [.int .u8 z] ∧ 0 ≤ z ∧ z < 256) l) : Rd w v (Sc.u8s l) ∧ Sc.Byt l := by
  have hl : (Sc.u8s l).length = l.length := by simp [Sc.u8s]
  obtain ⟨p, cap, rfl, h1, h2, h3⟩ := h
  refine ⟨⟨p, cap, by rw [hl], by rw [hl]; exact h1, ?_⟩, fun z hz => ?_⟩
  · rcases h3 with h3 | ⟨g, o, rfl, h3⟩
    · exact .inl (by rw [hl]; exact h3)
    · refine .inr ⟨g, o, rfl, fun k u hu => ?_⟩
      have hk : k < l.length := by rw [← hl]; exact (List.getElem?_eq_some_iff.1 hu).1
      obtain ⟨cs, h4, h5, h6, _⟩ := h3 k hk
      subst h6
      have := h5 0 (.int .u8 l[k]) rfl
      have hu' : u = .int .u8 l[k] := by simp [Sc.u8s, hk] at hu; exact hu.symm
      rw [hu']
      simpa using this
  · obtain ⟨k, hk, rfl⟩ := List.mem_iff_getElem.1 hz
    rcases h3 with h3 | ⟨g, o, rfl, h3⟩
    · omega
    · obtain ⟨cs, h4, h5, h6⟩ := h3 k hk
      exact h6.2
theorem read_bytes {fuel : Nat} {cs : List Value} {x : DataW H × List MemPlace} (h : DataW.trod enc Tryd.prog w base spare held fuel 42 cs = some x) :
    ∃ v l, cs = [v] ∧ Rd w v (Sc.u8s l) ∧ Sc.Byt l ∧ dlen x.1 = l.length := by
  obtain ⟨v, l, h1, h2, h3⟩ := read_list Tryd.underlying42 (by rw [cells5]; decide) (fun cs (z : Int) => cs = [.int .u8 z] ∧ 0 ≤ z ∧ z < 256) (fun n cs x hx => by
    obtain ⟨z, hz, hw⟩ := read_int Tryd.underlying5 hx
    have := bounds_u8 hw
    exact ⟨z, hz, this.1, by omega⟩) h
  rw [cells5] at h2
  obtain ⟨h4, h5⟩ := rds_bytes h2
  exact ⟨v, l, h1, h4, h5, h3⟩
set_option maxRecDepth 100000 in
theorem read_step {fuel : Nat} {cs : List Value} {x : DataW H × List MemPlace} (h : DataW.trod enc Tryd.prog w base spare held fuel 44 cs = some x) :
    ∃ (s : Sc.St) (p : Option Addr) (c : Nat) (d0 d1 d2 d3 d4 : DataW H), cs = s.cells (.slice p s.by'.length c) ∧ Sc.StI s ∧ Rd w (.slice p s.by'.length c) (Sc.u8s s.by') ∧ x.1 = .agg [d0, d1, d2, d3, d4] ∧ dlen d4 = s.by'.length := by
  obtain ⟨xs, m, _, hx, hl, hlen, hf⟩ := DataW.trod_struct Tryd.underlying44 h
  rw [cells44] at hl
  obtain ⟨b0, b1, b2, b3, b4, rfl⟩ := five_of hl
  have hlen : xs.length = 5 := hlen
  obtain ⟨y0, y1, y2, y3, y4, rfl⟩ := five_of hlen
  obtain ⟨n0, h0, w0⟩ := read_int (cs := [b0]) Tryd.underlying41 (hf 0 _ rfl)
  obtain ⟨n1, h1, w1⟩ := read_int (cs := [b1]) Tryd.underlying3 (hf 1 _ rfl)
  obtain ⟨n2, h2, w2⟩ := read_int (cs := [b2]) Tryd.underlying3 (hf 2 _ rfl)
  obtain ⟨n3, h3, w3⟩ := read_int (cs := [b3]) Tryd.underlying3 (hf 3 _ rfl)
  obtain ⟨v, l, h4, r1, r2, r3⟩ := read_bytes (cs := [b4]) (hf 4 _ rfl)
  obtain rfl : b0 = .int .u8 n0 := by simpa using h0
  obtain rfl : b1 = .int .i64 n1 := by simpa using h1
  obtain rfl : b2 = .int .i64 n2 := by simpa using h2
  obtain rfl : b3 = .int .i64 n3 := by simpa using h3
  obtain rfl : b4 = v := by simpa using h4
  have q0 := bounds_u8 w0
  have r1' := r1
  obtain ⟨p, c, hv, -⟩ := r1
  have hv' : b4 = .slice p l.length c := by rw [hv]; simp [Sc.u8s]
  subst hv'
  refine ⟨⟨n0.toNat, n1, n2, n3, l⟩, p, c, _, _, _, _, _, ?_, ⟨by show n0.toNat < 256; omega, bounds_i64 w1, bounds_i64 w2, bounds_i64 w3, r2⟩, r1', by rw [hx]; rfl, r3⟩
  show [Value.int .u8 n0, .int .i64 n1, .int .i64 n2, .int .i64 n3, _] = [Value.int .u8 (n0.toNat : Nat), .int .i64 n1, .int .i64 n2, .int .i64 n3, _]
  rw [show ((n0.toNat : Nat) : Int) = n0 by omega]
end
theorem gPowType : (Tryd.prog.globals[2]?).map (·.type) = some 166 := by kernel_rfl
theorem cells166 : Tryd.prog.cellsOf 166 = 20 := by kernel_rfl
theorem und166 : ∃ e, Tryd.prog.underlying 166 = some (.array 20 e) ∧ Tryd.prog.underlying e = some (.int .u64) ∧ Tryd.prog.cellsOf e = 1 := ⟨153, by kernel_rfl, by kernel_rfl, by kernel_rfl⟩
theorem tb_of {W : World} {L : List (String × DataW Unit)} (h : laidMetH Tryd.prog L W) (e : L.filter (fun x => x.1 == "internal/strconv.uint64pow10") = [("internal/strconv.uint64pow10", Rows.laid_internal_strconv_uint64pow10)]) : TB W := by
  have h1 := h.filter (fun x => x.1 == "internal/strconv.uint64pow10")
  rw [e, show Rows.laid_internal_strconv_uint64pow10 = Lib.tabData (H := Unit) .u64 Lib.pow10Tab from rfl] at h1
  obtain ⟨t, h2, h3, h4⟩ := und166
  exact Lib.tabIs_of_head (rest := []) gPow gPowType h2 h3 h4 cells166 h1
end Go.Proofs.YtbpgpjibljgiiaaDoor.cardK
