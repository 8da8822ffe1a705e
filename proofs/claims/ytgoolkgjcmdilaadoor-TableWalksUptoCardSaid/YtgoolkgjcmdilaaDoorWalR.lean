/-
  TableWalks: what a round's memory is; what the calls of a round leave of it.
-/
import Derived.Test.YtgoolkgjcmdilaaDoorWalQ
import Derived.Test.YtgoolkgjcmdilaaDoorLivA
namespace Go.Proofs.YtgoolkgjcmdilaaDoor
open Go.RowKit
set_option linter.unusedVariables false
set_option linter.unusedSimpArgs false
attribute [local go_sem] Oper.semAt_some

/-- Two rows of two types lie in two blocks. -/
theorem own_ne2 {w : World} {e e' : TypeId} {s s' k k' g : Nat} {v v' : Value} {xs xs' : List Value} (h : w.ownsRow 0 e s v k xs) (h' : w.ownsRow 0 e' s' v' k' xs') (hn : e ≠ e') (hg : v.ownBlock = some g) : v'.ownBlock ≠ some g := by
  intro hg'
  rcases h.2 with ⟨rfl, _⟩ | ⟨a, _, _, rfl, _, ha, _⟩
  · simp [Value.ownBlock] at hg
  · rcases h'.2 with ⟨rfl, _⟩ | ⟨b, _, _, rfl, _, hb, _⟩
    · simp [Value.ownBlock] at hg'
    · simp [Value.ownBlock] at hg hg'
      subst hg; subst hg'
      rw [ha] at hb
      simp at hb
      exact hn hb.2
/-- The memory of TableWalks between two calls. -/
structure Wk (w : World) (bt : Nat) (Ps : VPs) (told gone : List Int) (vT vG : Value) (W : World) : Prop where
  tab : ∃ vt, TabV W bt vt Ps 65536 ∧ ∀ g, vt.ownBlock = some g → w.heap.size ≤ g
  bn : w.heap.size ≤ bt
  tl : W.ownsRow 0 33 1 vT told.length (u32s told)
  tg : W.ownsRow 0 33 1 vG gone.length (u32s gone)
  ft : ∀ g, vT.ownBlock = some g → w.heap.size ≤ g
  fg : ∀ g, vG.ownBlock = some g → w.heap.size ≤ g
  ne : ∀ g, vT.ownBlock = some g → vG.ownBlock ≠ some g
  fr : Fr [] w W
theorem Wk.grow {w W W' : World} {bt : Nat} {Ps : VPs} {told gone : List Int} {vT vG : Value} (h : Wk w bt Ps told gone vT vG W) (hf : Fr [] W W') : Wk w bt Ps told gone vT vG W' := by
  obtain ⟨vt, h1, h2⟩ := h.tab
  exact ⟨⟨vt, h1.grow hf, h2⟩, h.bn, own_fr h.tl hf (by simp), own_fr h.tg hf (by simp), h.ft, h.fg, h.ne, h.fr.trans hf (by simp)⟩
/-- A call that changes the table. -/
theorem Wk.chg {w W W' : World} {bt : Nat} {vt : Value} {Ps Qs : VPs} {told gone : List Int} {vT vG : Value} {e : Ending} (h : Wk w bt Ps told gone vT vG W) (ht : TabV W bt vt Ps 65536) (hv : ∀ g, vt.ownBlock = some g → w.heap.size ≤ g) (hc : Chg W bt vt Qs 65536 e W') :
    Wk w bt Qs told gone vT vG W' := by
  obtain ⟨_, v', h1, h2, h3⟩ := hc
  have keep : ∀ {n : Nat} {v : Value} {xs : List Value}, W.ownsRow 0 33 1 v n xs → ∀ g, v.ownBlock = some g → g ∉ bt :: vt.ownBlock.toList := fun ho g hg hm => by
    rcases List.mem_cons.1 hm with e | hm
    · exact own_ne ho hg ht.hd (by decide) e.symm
    · exact own_ne2 ho ht.own (by decide) hg (by simpa using hm)
  refine ⟨⟨v', h1, fun g hg => ?_⟩, h.bn, own_fr h.tl h3 (keep h.tl), own_fr h.tg h3 (keep h.tg), h.ft, h.fg, h.ne, h.fr.trans h3 (fun x hx => .inr ?_)⟩
  · rcases h2 with q | ⟨g', q, hge⟩
    · exact hv g (by rw [← q]; exact hg)
    · rw [q] at hg; cases hg; exact Nat.le_trans h.fr.size hge
  · rcases List.mem_cons.1 hx with e | hx
    · rw [e]; exact h.bn
    · exact hv x (by simpa using hx)
/-- A row that has grown by one: the other row, and the table, stay. -/
theorem Wk.told {w W W' : World} {bt : Nat} {Ps : VPs} {told gone : List Int} {vT vG v' : Value} {a : Int} (h : Wk w bt Ps told gone vT vG W) (hp : Appended W 33 1 vT (told.length + 1) (u32s told ++ [.int .u32 a]) v' W') : Wk w bt Ps (told ++ [a]) gone v' vG W' := by
  obtain ⟨vt, ht, hv⟩ := h.tab
  have hf := hp.fr
  have htw : ∀ g, vt.ownBlock = some g → g ∉ vT.ownBlock.toList := fun g hg hm => own_ne2 h.tl ht.own (by decide) (by simpa using hm) hg
  have hgw : ∀ g, vG.ownBlock = some g → g ∉ vT.ownBlock.toList := fun g hg hm => h.ne g (by simpa using hm) hg
  refine ⟨⟨vt, ht.fr hf (own_notin h.tl ht.hd (by decide)) htw, hv⟩, h.bn, ?_, own_fr h.tg hf hgw, fun g hg => ?_, h.fg, fun g hg hg2 => ?_, h.fr.trans hf (fun x hx => .inr (h.ft x (by simpa using hx)))⟩
  · have := hp.own
    simpa [u32s] using this
  · rcases hp.place with q | q
    · exact h.ft g (by rw [← q]; exact hg)
    · rw [q] at hg; cases hg; exact h.fr.size
  · rcases hp.place with q | q
    · exact h.ne g (by rw [← q]; exact hg) hg2
    · rw [q] at hg; cases hg
      have := own_lt h.tg hg2
      omega
theorem Wk.gone {w W W' : World} {bt : Nat} {Ps : VPs} {told gone : List Int} {vT vG v' : Value} {a : Int} (h : Wk w bt Ps told gone vT vG W) (hp : Appended W 33 1 vG (gone.length + 1) (u32s gone ++ [.int .u32 a]) v' W') : Wk w bt Ps told (gone ++ [a]) vT v' W' := by
  obtain ⟨vt, ht, hv⟩ := h.tab
  have hf := hp.fr
  have htw : ∀ g, vt.ownBlock = some g → g ∉ vG.ownBlock.toList := fun g hg hm => own_ne2 h.tg ht.own (by decide) (by simpa using hm) hg
  have hgw : ∀ g, vT.ownBlock = some g → g ∉ vG.ownBlock.toList := fun g hg hm => h.ne g hg (by simpa using hm)
  refine ⟨⟨vt, ht.fr hf (own_notin h.tg ht.hd (by decide)) htw, hv⟩, h.bn, own_fr h.tl hf hgw, ?_, h.ft, fun g hg => ?_, fun g hg hg2 => ?_, h.fr.trans hf (fun x hx => .inr (h.fg x (by simpa using hx)))⟩
  · have := hp.own
    simpa [u32s] using this
  · rcases hp.place with q | q
    · exact h.fg g (by rw [← q]; exact hg)
    · rw [q] at hg; cases hg; exact h.fr.size
  · rcases hp.place with q | q
    · exact h.ne g hg (by rw [← q]; exact hg2)
    · rw [q] at hg2; cases hg2
      have := own_lt h.tl hg
      omega
/-- A change: a number, and whether it is taken out. -/
abbrev Cg := Int × Bool
/-- A slice of changes. -/
def RdC (w : World) (v : Value) (C : List Cg) : Prop :=
  ∃ p cap, v = .slice p C.length cap ∧ (C.length = 0 ∨ ∃ g o, p = some ⟨g, o, none⟩ ∧ ∀ j c, C[j]? = some c → w.cell? ⟨g, o + j * 2, none⟩ = some (.int .u32 c.1) ∧ w.cell? ⟨g, o + j * 2 + 1, none⟩ = some (.bool c.2))
/-- A slice of those. -/
def RdCs (w : World) (v : Value) (Cs : List (List Cg)) : Prop :=
  ∃ p cap, v = .slice p Cs.length cap ∧ (Cs.length = 0 ∨ ∃ g o, p = some ⟨g, o, none⟩ ∧ ∀ j C, Cs[j]? = some C → ∃ u, w.cell? ⟨g, o + j, none⟩ = some u ∧ RdC w u C)
theorem RdC.grow {w w' : World} {v : Value} {C : List Cg} (h : RdC w v C) (hf : Fr [] w w') : RdC w' v C := by
  obtain ⟨p, cap, rfl, h0⟩ := h
  refine ⟨p, cap, rfl, ?_⟩
  rcases h0 with h0 | ⟨g, o, rfl, h0⟩
  · exact .inl h0
  · exact .inr ⟨g, o, rfl, fun j c hj => by
      obtain ⟨a, b⟩ := h0 j c hj
      exact ⟨(hf.cell (World.block_lt_of_cell? w _ a) (by simp)).trans a, (hf.cell (World.block_lt_of_cell? w _ b) (by simp)).trans b⟩⟩
theorem RdCs.grow {w w' : World} {v : Value} {Cs : List (List Cg)} (h : RdCs w v Cs) (hf : Fr [] w w') : RdCs w' v Cs := by
  obtain ⟨p, cap, rfl, h0⟩ := h
  refine ⟨p, cap, rfl, ?_⟩
  rcases h0 with h0 | ⟨g, o, rfl, h0⟩
  · exact .inl h0
  · exact .inr ⟨g, o, rfl, fun j C hj => by
      obtain ⟨u, a, b⟩ := h0 j C hj
      exact ⟨u, (hf.cell (World.block_lt_of_cell? w _ a) (by simp)).trans a, b.grow hf⟩⟩
/-- All the numbers of the changes, in their order. -/
def nums (Cs : List (List Cg)) : List Int := Cs.flatMap fun C => C.map (·.1)
def total (Cs : List (List Cg)) : Nat := (Cs.map List.length).sum
theorem nums_len (Cs : List (List Cg)) : (nums Cs).length = total Cs := by
  induction Cs with
  | nil => rfl
  | cons C r ih => simp only [nums, total, List.flatMap_cons, List.length_append, List.map_cons, List.sum_cons, List.length_map] at *; omega
theorem total_take (Cs : List (List Cg)) (n : Nat) : total (Cs.take n) ≤ total Cs := by
  conv => rhs; rw [← List.take_append_drop n Cs]
  unfold total
  rw [List.map_append, List.sum_append]
  omega
theorem total_succ {Cs : List (List Cg)} {n : Nat} {C : List Cg} (h : Cs[n]? = some C) : total (Cs.take (n + 1)) = total (Cs.take n) + C.length := by
  obtain ⟨hn, e⟩ := List.getElem?_eq_some_iff.1 h
  unfold total
  rw [List.take_succ_eq_append_getElem hn, e, List.map_append, List.sum_append]
  simp
theorem nums_succ {Cs : List (List Cg)} {n : Nat} {C : List Cg} (h : Cs[n]? = some C) : nums (Cs.take (n + 1)) = nums (Cs.take n) ++ C.map (·.1) := by
  obtain ⟨hn, e⟩ := List.getElem?_eq_some_iff.1 h
  unfold nums
  rw [List.take_succ_eq_append_getElem hn, e, List.flatMap_append]
  simp
end Go.Proofs.YtgoolkgjcmdilaaDoor
