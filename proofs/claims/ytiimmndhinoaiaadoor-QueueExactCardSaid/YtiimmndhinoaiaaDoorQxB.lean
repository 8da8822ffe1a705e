/-
  QueueExact: what a step leaves of the three rings. Printed by genQx.py.
-/
import Derived.Test.YtiimmndhinoaiaaDoorQxA
namespace Go.Proofs.YtiimmndhinoaiaaDoor
open Go.RowKit Go.Shelf ring
set_option linter.unusedVariables false
set_option linter.unusedSimpArgs false
attribute [local go_sem] Oper.semAt_some
namespace Qu

structure FineQ (k : Nat) (V : List Int) (M : RM) : Prop where
  num : ∀ x ∈ V, I64 x
  rf : 0 ≤ M.rf ∧ M.rf ≤ k
/-- What a step leaves. -/
def QLeft (w : World) (b g c d r : Nat) (vr : Value) (V' : List Int) (M' : RM) (W : World) : Prop :=
  ∃ g' d' vr', TQ W b g' c d' r vr' V' M' ∧ (g' = g ∨ w.heap.size ≤ g') ∧ (d' = d ∨ w.heap.size ≤ d') ∧ (vr' = vr ∨ ∀ j, vr'.ownBlock = some j → w.heap.size ≤ j) ∧ Fr [b, g, c, d, r] w W
def QDoes (w : World) (b g c d r : Nat) (vr : Value) (k : Nat) (e : Ending) (w' : World) : Prop :=
  e = .returned (.bool true) ∧ ∃ V' M', QLeft w b g c d r vr V' M' w' ∧ FineQ (k + 1) V' M'
section
variable {w w0 W1 W1' W2 W2' W3 W3' : World} {b g c d r : Nat} {vr : Value} {V V' : List Int} {M M' : RM} {x1 x2 x3 : Value} {e1 e2 e3 : Ending}
theorem TQ.p_at (h : TQ w b g c d r vr V M) {S : List Nat} (f : Fr S w W1) (hb : b ∉ S) (hg : g ∉ S) : ∃ Cs k, RgS.RingAt W1 b g Cs k (V.map qtx) M := by
  obtain ⟨Cs, k, h1⟩ := h.p
  exact ⟨Cs, k, h1.fr f hb hg⟩
theorem TQ.q_at (h : TQ w b g c d r vr V M) {S : List Nat} (f : Fr S w W1) (hb : c ∉ S) (hg : d ∉ S) : ∃ Cs k, RgP.RingAt W1 c d Cs k V M := by
  obtain ⟨Cs, k, h1⟩ := h.q
  exact ⟨Cs, k, h1.fr f hb hg⟩
theorem TQ.ne (h : TQ w b g c d r vr V M) : (b ≠ c ∧ b ≠ d ∧ b ≠ r) ∧ (g ≠ c ∧ g ≠ d ∧ g ≠ r) ∧ (c ≠ r ∧ d ≠ r) ∧ ∀ k ∈ vr.ownBlock.toList, k ∉ [b, g, c, d, r] := by
  obtain ⟨⟨xb, hb⟩, ⟨xg, hg⟩, ⟨xc, hc⟩, ⟨xd, hd⟩, ⟨xr, hr⟩, hv⟩ := h.tags
  refine ⟨⟨hb.ne hc (by decide), hb.ne hd (by decide), hb.ne hr (by decide)⟩, ⟨hg.ne hc (by decide), hg.ne hd (by decide), hg.ne hr (by decide)⟩, ⟨hc.ne hr (by decide), hd.ne hr (by decide)⟩, fun k hk hm => ?_⟩
  obtain ⟨x, hx⟩ := hv k hk
  simp at hm
  rcases hm with rfl | rfl | rfl | rfl | rfl
  · exact hx.ne hb (by decide) rfl
  · exact hx.ne hg (by decide) rfl
  · exact hx.ne hc (by decide) rfl
  · exact hx.ne hd (by decide) rfl
  · exact hx.ne hr (by decide) rfl
theorem notin2 {a x y : Nat} (h1 : a ≠ x) (h2 : a ≠ y) : a ∉ [x, y] := by simp; exact ⟨h1, h2⟩
theorem QLeft.refl (h : TQ w b g c d r vr V M) (f : Fr [] w W1) : QLeft w b g c d r vr V M W1 := ⟨g, d, vr, h.fr0 f, .inl rfl, .inl rfl, .inl rfl, f.mono (by simp)⟩
theorem QLeft.grow (h : QLeft w b g c d r vr V M W1) (f : Fr [] W1 W2) : QLeft w b g c d r vr V M W2 := by
  obtain ⟨g', d', v', h1, h2, h3, h4, h5⟩ := h
  exact ⟨g', d', v', h1.fr0 f, h2, h3, h4, h5.trans f (by simp)⟩
theorem QLeft.back (f : Fr [] w0 w) (h : QLeft w b g c d r vr V M W1) : QLeft w0 b g c d r vr V M W1 := by
  obtain ⟨g', d', v', h1, h2, h3, h4, h5⟩ := h
  have hs := f.size
  exact ⟨g', d', v', h1, by rcases h2 with h2 | h2; exact .inl h2; exact .inr (by omega), by rcases h3 with h3 | h3; exact .inl h3; exact .inr (by omega), by
    rcases h4 with h4 | h4
    · exact .inl h4
    · exact .inr fun j hj => Nat.le_trans hs (h4 j hj), (f.mono (by simp)).trans h5 (fun x hx => .inl hx)⟩
/-- The document's first, then the ring of texts, then the one of pairs. -/
theorem chain_rpq (h : TQ w b g c d r vr V M) (q1 : QPost w r vr V' M' x1 e1 W1) (f1 : Fr [] W1 W1') (q2 : RgS.PPost W1' b g (V'.map qtx) M' x2 e2 W2) (f2 : Fr [] W2 W2') (q3 : RgP.PPost W2' c d V' M' x3 e3 W3) (hpk : V'.length ≤ M'.pk) : QLeft w b g c d r vr V' M' W3 := by
  obtain ⟨⟨n1, n2, n3⟩, ⟨n4, n5, n6⟩, ⟨n7, n8⟩, nv⟩ := h.ne
  obtain ⟨⟨xb, hb⟩, ⟨xg, hg⟩, ⟨xc, hc⟩, ⟨xd, hd⟩, ⟨xr, hr⟩, hv⟩ := h.tags
  obtain ⟨-, v1, hr1, a1, F1⟩ := q1
  obtain ⟨-, g', Cs', k', hp2, a2, F2⟩ := q2
  obtain ⟨-, d', Ds', j', hq3, a3, F3⟩ := q3
  have F1' : Fr [r] w W1' := F1.trans f1 (by simp)
  have hr1' := hr1.fr0 f1
  have b1 := F1'.blk hb (by simpa using n3)
  have g1 := F1'.blk hg (by simpa using n6)
  have c1 := F1'.blk hc (by simpa using n7)
  have d1 := F1'.blk hd (by simpa using n8)
  have F2' : Fr [b, g] W1' W2' := F2.trans f2 (by simp)
  have own1 : ∀ k, v1.ownBlock = some k → k ∉ [b, g] := fun k hk hm => by
    obtain ⟨x, hx⟩ := own_blk hr1'.own k (by simp [hk])
    simp at hm
    rcases hm with rfl | rfl
    · exact hx.ne b1 (by decide) rfl
    · exact hx.ne g1 (by decide) rfl
  have hr2 := hr1'.fr F2' (notin2 (Ne.symm n3) (Ne.symm n6)) own1
  have c2 := F2'.blk c1 (notin2 (Ne.symm n1) (Ne.symm n4))
  have d2 := F2'.blk d1 (notin2 (Ne.symm n2) (Ne.symm n5))
  have hp2' := hp2.fr f2 (by simp) (by simp)
  have own2 : ∀ k, v1.ownBlock = some k → k ∉ [c, d] := fun k hk hm => by
    obtain ⟨x, hx⟩ := own_blk hr2.own k (by simp [hk])
    simp at hm
    rcases hm with rfl | rfl
    · exact hx.ne c2 (by decide) rfl
    · exact hx.ne d2 (by decide) rfl
  have s1 := F1'.size
  have s2 := F2'.size
  refine ⟨g', d', v1, ⟨⟨Cs', k', hp2'.fr F3 (notin2 n1 n2) (notin2 (hp2'.pl.ne c2 (by decide)) (hp2'.pl.ne d2 (by decide)))⟩, ⟨Ds', j', hq3⟩, hr2.fr F3 (notin2 (Ne.symm n7) (Ne.symm n8)) own2, hpk⟩, ?_, ?_, a1, ?_⟩
  · rcases a2 with a2 | a2
    · exact .inl a2
    · exact .inr (by omega)
  · rcases a3 with a3 | a3
    · exact .inl a3
    · exact .inr (by omega)
  · exact ((F1'.mono (by simp)).trans F2' (by simp)).trans F3 (by simp)
/-- The ring of texts first, then the one of pairs, then something is laid into a box, then the document's. -/
theorem chain_pqr {z : Nat} (h : TQ w b g c d r vr V M) (q1 : RgS.PPost w b g (V'.map qtx) M' x1 e1 W1) (f1 : Fr [] W1 W1') (q2 : RgP.PPost W1' c d V' M' x2 e2 W2) (f2 : Fr [z] W2 W2') (hz : z < w.heap.size) (hzn : z ∉ [b, g, c, d, r] ∧ z ∉ vr.ownBlock.toList) (q3 : QPost W2' r vr V' M' x3 e3 W3) (hpk : V'.length ≤ M'.pk) : ∃ g' d' vr', TQ W3 b g' c d' r vr' V' M' ∧ (g' = g ∨ w.heap.size ≤ g') ∧ (d' = d ∨ w.heap.size ≤ d') ∧ (vr' = vr ∨ ∀ j, vr'.ownBlock = some j → w.heap.size ≤ j) ∧ Fr [b, g, c, d, r, z] w W3 := by
  obtain ⟨⟨n1, n2, n3⟩, ⟨n4, n5, n6⟩, ⟨n7, n8⟩, nv⟩ := h.ne
  obtain ⟨⟨xb, hb⟩, ⟨xg, hg⟩, ⟨xc, hc⟩, ⟨xd, hd⟩, ⟨xr, hr⟩, hv⟩ := h.tags
  obtain ⟨hz0, hz1⟩ := hzn
  simp at hz0
  obtain ⟨z1, z2, z3, z4, z5⟩ := hz0
  obtain ⟨-, g', Cs', k', hp1, a1, F1⟩ := q1
  obtain ⟨-, d', Ds', j', hq2, a2, F2⟩ := q2
  obtain ⟨-, v3, hr3, a3, F3⟩ := q3
  have F1' : Fr [b, g] w W1' := F1.trans f1 (by simp)
  have hp1' := hp1.fr f1 (by simp) (by simp)
  have s1 := F1'.size
  have s2 := F2.size
  have s3 := f2.size
  have c1 := F1'.blk hc (notin2 (Ne.symm n1) (Ne.symm n4))
  have d1 := F1'.blk hd (notin2 (Ne.symm n2) (Ne.symm n5))
  have r1 := F1'.blk hr (notin2 (Ne.symm n3) (Ne.symm n6))
  have hp2 := hp1'.fr F2 (notin2 n1 n2) (notin2 (hp1'.pl.ne c1 (by decide)) (hp1'.pl.ne d1 (by decide)))
  have s0 := F1.size
  have hg'z : g' ≠ z := by rcases a1 with rfl | a1; exact Ne.symm z2; omega
  have hd'z : d' ≠ z := by rcases a2 with rfl | a2; exact Ne.symm z4; omega
  have hp2' := hp2.fr f2 (by simpa using Ne.symm z1) (by simpa using hg'z)
  have hq2' := hq2.fr f2 (by simpa using Ne.symm z3) (by simpa using hd'z)
  have r2 := f2.blk (F2.blk r1 (notin2 (Ne.symm n7) (Ne.symm n8))) (by simpa using Ne.symm z5)
  refine ⟨g', d', v3, ⟨⟨Cs', k', hp2'.fr F3 (by simpa using n3) (by simpa using hp2'.pl.ne r2 (by decide))⟩, ⟨Ds', j', hq2'.fr F3 (by simpa using n7) (by simpa using hq2'.pl.ne r2 (by decide))⟩, hr3, hpk⟩, ?_, ?_, ?_, ?_⟩
  · rcases a1 with a1 | a1
    · exact .inl a1
    · exact .inr a1
  · rcases a2 with a2 | a2
    · exact .inl a2
    · exact .inr (by omega)
  · rcases a3 with a3 | a3
    · exact .inl a3
    · exact .inr fun j hj => by have := a3 j hj; omega
  · exact (((F1'.mono (T := [b, g, c, d, r, z]) (by simp)).trans F2 (by simp)).trans f2 (by simp)).trans F3 (by simp)
end
/-- The value at a place, and whether there is one. -/
def atv (V : List Int) (i : Int) : Int := if 0 ≤ i ∧ i < V.length then V.getD i.toNat 0 else 0
def inb (V : List Int) (i : Int) : Bool := decide (0 ≤ i ∧ i < V.length)
theorem qtx_zero : qtx 0 = ⟨#[]⟩ := rfl
theorem atS (V : List Int) (i : Int) : RgS.atRes (V.map qtx) i = .tuple #[.string (qtx (atv V i)), .bool (inb V i)] := by
  unfold RgS.atRes atv inb
  rw [List.length_map]
  by_cases h : 0 ≤ i ∧ i < V.length
  · rw [if_pos h, if_pos h, decide_eq_true h]
    have hl : i.toNat < V.length := by omega
    simp [List.getD_eq_getElem?_getD, hl]
  · rw [if_neg h, if_neg h, decide_eq_false h, qtx_zero]
theorem atP (V : List Int) (i : Int) : RgP.atRes V i = .tuple #[pval (atv V i), .bool (inb V i)] := by
  unfold RgP.atRes atv inb
  by_cases h : 0 ≤ i ∧ i < V.length
  · rw [if_pos h, if_pos h, decide_eq_true h]
  · rw [if_neg h, if_neg h, decide_eq_false h]
theorem atR (V : List Int) (i : Int) : (if 0 ≤ i ∧ i < V.length then Value.tuple #[.int .i64 (V.getD i.toNat 0), .bool true] else .tuple #[.int .i64 0, .bool false]) = .tuple #[.int .i64 (atv V i), .bool (inb V i)] := by
  unfold atv inb
  by_cases h : 0 ≤ i ∧ i < V.length
  · rw [if_pos h, if_pos h, decide_eq_true h]
  · rw [if_neg h, if_neg h, decide_eq_false h]
theorem atv_I64 {V : List Int} (h : ∀ x ∈ V, I64 x) (i : Int) : I64 (atv V i) := by
  unfold atv
  split
  · rename_i hi
    have hl : i.toNat < V.length := by omega
    rw [List.getD_eq_getElem?_getD, List.getElem?_eq_getElem hl]
    exact h _ (List.getElem_mem hl)
  · unfold I64; omega
theorem eqlPr (w : World) (v : Int) : (binOp .eql 65 (pval v) (.agg #[.int .i64 v, .float .f64 0])).run Tryd.prog w = .ok (.bool true) w := by
  have h : (Op.equalIn 9999 63 (.float .f64 0) (.float .f64 0)).run Tryd.prog w = .ok true w := by kernel_rfl
  unfold pval
  simp [go_sem, h]
theorem eqgPr (w : World) (v : Int) (o1 o2 : Operand) : (eqGuard .eql 65 o1 o2 (pval v) (.agg #[.int .i64 v, .float .f64 0])).run Tryd.prog w = .ok () w := by
  kernel_rfl
end Qu
end Go.Proofs.YtiimmndhinoaiaaDoor
