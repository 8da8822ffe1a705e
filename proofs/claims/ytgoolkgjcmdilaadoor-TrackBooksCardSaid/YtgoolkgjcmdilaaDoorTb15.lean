/-
  Tb, part 15 of 36: the texts BiD BiE BiF BiG RefA RefB RefC LivA RangeIn PaiA BiH BiJ.
-/
import Derived.BigRegion
import Derived.Deep.CutBlock
import Derived.Deep.DeepCutAuto
import Derived.Test.YtgoolkgjcmdilaaDoorTb1
import Derived.Test.YtgoolkgjcmdilaaDoorTb2
import Derived.Test.YtgoolkgjcmdilaaDoorTb7
import Derived.Test.YtgoolkgjcmdilaaDoorTb9
import Derived.Test.YtgoolkgjcmdilaaDoorTb10
import Derived.Test.YtgoolkgjcmdilaaDoorTb11
import Derived.Test.YtgoolkgjcmdilaaDoorTb12
import Derived.Test.YtgoolkgjcmdilaaDoorTb14
section
namespace Go.Proofs.YtgoolkgjcmdilaaDoor
open Go.RowKit
set_option linter.unusedVariables false
set_option linter.unusedSimpArgs false
attribute [local go_sem] Oper.semAt_some
/-- Two sets' members, joined in some way. -/
def zipB (f : Bool → Bool → Bool) (B C : List Bool) : List Bool := (List.range B.length).map fun k => f (B.getD k false) (C.getD k false)
theorem zipB_len (f : Bool → Bool → Bool) (B C : List Bool) : (zipB f B C).length = B.length := by simp [zipB]
theorem zipB_get (f : Bool → Bool → Bool) (hf : f false false = false) (B C : List Bool) (h : B.length = C.length) (k : Nat) : (zipB f B C).getD k false = f (B.getD k false) (C.getD k false) := by
  rcases Nat.lt_or_ge k B.length with hk | hk
  · rw [List.getD_eq_getElem?_getD]
    simp [zipB, List.getElem?_range hk]
  · rw [getD_out _ _ (by rw [zipB_len]; exact hk), getD_out B k hk, getD_out C k (by omega), hf]
/-- What a change does to a word. -/
structure WordOp (f : Bool → Bool → Bool) (op : Nat → Nat → Nat) : Prop where
  z : f false false = false
  lt : ∀ x y, x < 18446744073709551616 → y < 18446744073709551616 → op x y < 18446744073709551616
  bit : ∀ x y j, x < 18446744073709551616 → y < 18446744073709551616 → j < 64 → (op x y).testBit j = f (x.testBit j) (y.testBit j)
/-- The words when the first i are changed. -/
def mixW (op : Nat → Nat → Nat) (ws cs : List Nat) (i : Nat) : List Nat := (List.range ws.length).map fun j => if j < i then op (ws.getD j 0) (cs.getD j 0) else ws.getD j 0
theorem mixW_len (op : Nat → Nat → Nat) (ws cs : List Nat) (i : Nat) : (mixW op ws cs i).length = ws.length := by simp [mixW]
theorem mixW_succ (op : Nat → Nat → Nat) (ws cs : List Nat) (i : Nat) (hi : i < ws.length) : mixW op ws cs (i + 1) = (mixW op ws cs i).set i (op (ws.getD i 0) (cs.getD i 0)) := by
  refine List.ext_getElem? fun j => ?_
  rcases Nat.lt_or_ge j ws.length with hj | hj
  · rw [List.getElem?_set]
    by_cases hij : i = j
    · subst hij
      rw [if_pos rfl, mixW_len, if_pos hi]
      simp [mixW, List.getElem?_range hi]
    · rw [if_neg hij]
      simp only [mixW, List.getElem?_map, List.getElem?_range hj, Option.map_some]
      by_cases h1 : j < i
      · rw [if_pos (by omega), if_pos h1]
      · rw [if_neg (by omega), if_neg h1]
  · rw [List.getElem?_eq_none (by rw [mixW_len]; exact hj), List.getElem?_eq_none (by rw [List.length_set, mixW_len]; exact hj)]
theorem mixW_get (op : Nat → Nat → Nat) (ws cs : List Nat) (i j : Nat) (hj : j < ws.length) : (mixW op ws cs i).getD j 0 = if j < i then op (ws.getD j 0) (cs.getD j 0) else ws.getD j 0 := by
  rw [List.getD_eq_getElem?_getD]
  simp [mixW, List.getElem?_range hj]
/-- In the midst of the loop. -/
structure Mix (op : Nat → Nat → Nat) (w : World) (b g c g2 : Nat) (v u : Value) (B C : List Bool) (ws cs : List Nat) (i : Nat) (W : World) : Prop where
  hb : Blk W b #[.int .i64 B.length, v] 90
  hc : Blk W c #[.int .i64 C.length, u] 90
  own : W.ownsRow 0 96 1 v ws.length (wds (mixW op ws cs i))
  rest : ∀ j, i ≤ j → j < cs.length → W.cell? ⟨g2, j, none⟩ = some (.int .u64 (cs.getD j 0 : Nat))
  fr : Fr [g] w W
theorem Mix.step {op : Nat → Nat → Nat} {w W : World} {b g c g2 cap : Nat} {u : Value} {B C : List Bool} {ws cs : List Nat} {i : Nat} (h : Mix op w b g c g2 (.slice (some ⟨g, 0, none⟩) ws.length cap) u B C ws cs i W) (hi : i < ws.length) :
    Mix op w b g c g2 (.slice (some ⟨g, 0, none⟩) ws.length cap) u B C ws cs (i + 1) (W.setCell ⟨g, i, none⟩ (.int .u64 (op (ws.getD i 0) (cs.getD i 0) : Nat))) := by
  have hbg : b ≠ g := fun e => by subst e; exact own_notin h.own h.hb (by decide) (by simp [Value.ownBlock])
  have hcg : c ≠ g := fun e => by subst e; exact own_notin h.own h.hc (by decide) (by simp [Value.ownBlock])
  refine ⟨h.hb.other _ _ hbg, h.hc.other _ _ hcg, ?_, fun j hj hjl => ?_, h.fr.setCell _ _ (.inl (by simp))⟩
  · have e : wds (mixW op ws cs (i + 1)) = (wds (mixW op ws cs i)).set i (.int .u64 (op (ws.getD i 0) (cs.getD i 0) : Nat)) := by rw [mixW_succ op ws cs i hi]; simp [wds, List.map_set]
    rw [e]
    exact own_set h.own rfl _ _ (by simp [wds, mixW_len]; exact hi)
  · refine (World.cell?_setCell_other _ _ _ _ (fun e => ?_)).trans (h.rest j (by omega) hjl)
    have e2 := congrArg Addr.off e
    dsimp only at e2
    omega
/-- Behind the loop it is a set again. -/
theorem Mix.done {f : Bool → Bool → Bool} {op : Nat → Nat → Nat} (ho : WordOp f op) {w W : World} {b g c g2 : Nat} {v u : Value} {B C : List Bool} {ws cs : List Nat} (hB : BitsAt w b v B ws) (hC : BitsAt w c u C cs) (hl : B.length = C.length) (h : Mix op w b g c g2 v u B C ws cs ws.length W) :
    BitsAt W b v (zipB f B C) (mixW op ws cs ws.length) := by
  have hcl : cs.length = ws.length := by rw [hB.len, hC.len, hl]
  refine ⟨by rw [zipB_len]; exact h.hb, by rw [mixW_len]; exact h.own, hB.nn, by rw [mixW_len, zipB_len]; exact hB.len, fun x hx => ?_, fun i j hj => ?_, by rw [zipB_len]; exact hB.lim⟩
  · obtain ⟨j, hj⟩ := List.mem_iff_getElem?.1 hx
    have hjl : j < ws.length := by have := (List.getElem?_eq_some_iff.1 hj).1; rwa [mixW_len] at this
    have h2 := mixW_get op ws cs ws.length j hjl
    rw [List.getD_eq_getElem?_getD, hj, if_pos hjl] at h2
    have h3 : x = op (ws.getD j 0) (cs.getD j 0) := h2
    rw [h3]
    exact ho.lt _ _ (hB.word j) (hC.word j)
  · rw [zipB_get f ho.z B C hl]
    rcases Nat.lt_or_ge i ws.length with hi | hi
    · rw [mixW_get op ws cs ws.length i hi, if_pos hi, ho.bit _ _ _ (hB.word i) (hC.word i) hj, hB.bits i j hj, hC.bits i j hj]
    · have e1 : (mixW op ws cs ws.length).getD i 0 = 0 := by rw [List.getD_eq_getElem?_getD, List.getElem?_eq_none (by rw [mixW_len]; exact hi)]; rfl
      rw [e1, ← hB.bits i j hj, ← hC.bits i j hj]
      have e2 : ws.getD i 0 = 0 := by rw [List.getD_eq_getElem?_getD, List.getElem?_eq_none hi]; rfl
      have e3 : cs.getD i 0 = 0 := by rw [List.getD_eq_getElem?_getD, List.getElem?_eq_none (by omega)]; rfl
      rw [e2, e3]
      simp [ho.z]
end Go.Proofs.YtgoolkgjcmdilaaDoor
end
section
namespace Go.Proofs.YtgoolkgjcmdilaaDoor
open Go.RowKit
set_option linter.unusedVariables false
set_option linter.unusedSimpArgs false
attribute [local go_sem] Oper.semAt_some
structure RefB (W : World) (b : Nat) (v : Value) (B : List Bool) : Prop where
  hd : Blk W b #[v] 157
  own : W.ownsRow 0 4 1 v B.length (bools B)
  nn : v.ownBlock ≠ none
  lim : B.length ≤ 65536
theorem RefB.fr {S : List Nat} {W W' : World} {b : Nat} {v : Value} {B : List Bool} (h : RefB W b v B) (hf : Fr S W W') (h1 : b ∉ S) (h2 : ∀ g, v.ownBlock = some g → g ∉ S) : RefB W' b v B :=
  ⟨hf.blk h.hd h1, own_fr h.own hf h2, h.nn, h.lim⟩
theorem RefB.grow {W W' : World} {b : Nat} {v : Value} {B : List Bool} (h : RefB W b v B) (hf : Fr [] W W') : RefB W' b v B := h.fr hf (by simp) (by simp)
theorem RefB.row {W : World} {b : Nat} {v : Value} {B : List Bool} (h : RefB W b v B) :
    ∃ g cap, v = .slice (some ⟨g, 0, none⟩) B.length cap ∧ (∀ i, W.frozen? ⟨g, i, none⟩ = false) ∧ ∀ i, i < B.length → W.cell? ⟨g, i, none⟩ = some (.bool (B.getD i false)) := by
  rcases h.own.2 with ⟨rfl, _⟩ | ⟨g, cap, cur, rfl, _, hg, hnc, hm, _, _⟩
  · exact absurd rfl h.nn
  · refine ⟨g, cap, rfl, fun i => Blk.free hg i, fun i hi => ?_⟩
    have := h.own.cells (g := g) rfl i (.bool (B.getD i false)) (bools_get B hi)
    rw [Addr.add_lit] at this
    simpa using this
theorem bools_set (B : List Bool) (i : Nat) (c : Bool) : (bools B).set i (.bool c) = bools (B.set i c) := by simp [bools, List.map_set]
theorem RefB.upd {W : World} {b g : Nat} {v : Value} {B : List Bool} (h : RefB W b v B) (hg : v.ownBlock = some g) {i : Nat} (hi : i < B.length) (c : Bool) : RefB (W.setCell ⟨g, i, none⟩ (.bool c)) b v (B.set i c) := by
  have hbg : b ≠ g := fun e => by subst e; exact own_notin h.own h.hd (by decide) (by simp [hg])
  refine ⟨h.hd.other _ _ hbg, ?_, h.nn, by rw [List.length_set]; exact h.lim⟩
  rw [List.length_set, ← bools_set]
  exact own_set h.own hg i _ (by rw [bools_len]; exact hi)
/-- Whether a number may be put in; the set behind it. -/
def addA (B : List Bool) (i : Int) : Bool := decide (0 ≤ i ∧ i < (B.length : Int)) && !hasB B i
def addB (B : List Bool) (i : Int) : List Bool := if addA B i then B.set i.toNat true else B
def delB (B : List Bool) (i : Int) : List Bool := if hasB B i then B.set i.toNat false else B
theorem hasB_in {B : List Bool} {i : Int} (h : hasB B i = true) : ∃ m : Nat, i = m ∧ m < B.length := by
  unfold hasB at h
  rw [Bool.and_eq_true] at h
  have h1 : 0 ≤ i := by simpa using h.1
  refine ⟨i.toNat, by omega, ?_⟩
  rcases Nat.lt_or_ge i.toNat B.length with q | q
  · exact q
  · rw [getD_out B _ q] at h; cases h.2
end Go.Proofs.YtgoolkgjcmdilaaDoor
end
section
namespace Go.Proofs.YtgoolkgjcmdilaaDoor
open Go.RowKit
set_option linter.unusedVariables false
set_option linter.unusedSimpArgs false
attribute [local go_sem] Oper.semAt_some
/-- The members when the first i are changed. -/
def mixB (f : Bool → Bool → Bool) (B C : List Bool) (i : Nat) : List Bool := (List.range B.length).map fun j => if j < i then f (B.getD j false) (C.getD j false) else B.getD j false
theorem mixB_len (f : Bool → Bool → Bool) (B C : List Bool) (i : Nat) : (mixB f B C i).length = B.length := by simp [mixB]
theorem mixB_succ (f : Bool → Bool → Bool) (B C : List Bool) (i : Nat) (hi : i < B.length) : mixB f B C (i + 1) = (mixB f B C i).set i (f (B.getD i false) (C.getD i false)) := by
  refine List.ext_getElem? fun j => ?_
  rcases Nat.lt_or_ge j B.length with hj | hj
  · rw [List.getElem?_set]
    by_cases hij : i = j
    · subst hij
      rw [if_pos rfl, mixB_len, if_pos hi]
      simp [mixB, List.getElem?_range hi]
    · rw [if_neg hij]
      simp only [mixB, List.getElem?_map, List.getElem?_range hj, Option.map_some]
      by_cases h1 : j < i
      · rw [if_pos (by omega), if_pos h1]
      · rw [if_neg (by omega), if_neg h1]
  · rw [List.getElem?_eq_none (by rw [mixB_len]; exact hj), List.getElem?_eq_none (by rw [List.length_set, mixB_len]; exact hj)]
structure MixR (f : Bool → Bool → Bool) (w : World) (b g c g2 : Nat) (v u : Value) (B C : List Bool) (i : Nat) (W : World) : Prop where
  hb : Blk W b #[v] 157
  hc : Blk W c #[u] 157
  own : W.ownsRow 0 4 1 v B.length (bools (mixB f B C i))
  rest : ∀ j, i ≤ j → j < C.length → W.cell? ⟨g2, j, none⟩ = some (.bool (C.getD j false))
  fr : Fr [g] w W
theorem MixR.drew {f : Bool → Bool → Bool} {w W : World} {b g c g2 : Nat} {v u : Value} {B C : List Bool} {i : Nat} (h : MixR f w b g c g2 v u B C i W) : MixR f w b g c g2 v u B C i W.drew := ⟨h.hb, h.hc, h.own, h.rest, h.fr.drew⟩
theorem MixR.step {f : Bool → Bool → Bool} {w W : World} {b g c g2 cap : Nat} {u : Value} {B C : List Bool} {i : Nat} (h : MixR f w b g c g2 (.slice (some ⟨g, 0, none⟩) B.length cap) u B C i W) (hi : i < B.length) :
    MixR f w b g c g2 (.slice (some ⟨g, 0, none⟩) B.length cap) u B C (i + 1) (W.setCell ⟨g, i, none⟩ (.bool (f (B.getD i false) (C.getD i false)))) := by
  have hbg : b ≠ g := fun e => by subst e; exact own_notin h.own h.hb (by decide) (by simp [Value.ownBlock])
  have hcg : c ≠ g := fun e => by subst e; exact own_notin h.own h.hc (by decide) (by simp [Value.ownBlock])
  refine ⟨h.hb.other _ _ hbg, h.hc.other _ _ hcg, ?_, fun j hj hjl => ?_, h.fr.setCell _ _ (.inl (by simp))⟩
  · rw [mixB_succ f B C i hi, ← bools_set]
    exact own_set h.own rfl _ _ (by rw [bools_len, mixB_len]; exact hi)
  · refine (World.cell?_setCell_other _ _ _ _ (fun e => ?_)).trans (h.rest j (by omega) hjl)
    have e2 := congrArg Addr.off e
    dsimp only at e2
    omega
end Go.Proofs.YtgoolkgjcmdilaaDoor
end
section
namespace Go.Proofs.YtgoolkgjcmdilaaDoor
open Go.RowKit
set_option linter.unusedVariables false
set_option linter.unusedSimpArgs false
attribute [local go_sem] Oper.semAt_some
theorem iinfo : (Tryd.prog.info? 3).map (fun i => (i.zero, i.size, i.bytes)) = some (some (.int .i64 0), 1, 8) := by kernel_rfl
end Go.Proofs.YtgoolkgjcmdilaaDoor
end
section
namespace Go.Proofs.YtgoolkgjcmdilaaDoor
open Go.RowKit
set_option linter.unusedVariables false
set_option linter.unusedSimpArgs false
attribute [local go_sem] Oper.semAt_some
abbrev IPs := List (Int × Int)
structure RefT (W : World) (b : Nat) (v : Value) (R : IPs) (room : Int) : Prop where
  hd : Blk W b #[.int .i64 room, v] 52
  own : W.ownsRow 0 154 2 v R.length (flat payN R)
  up : Up R
  ids : ∀ p ∈ R, U32 p.1
  lim : R.length ≤ 65536
/-- A slice of pairs reads. -/
def RdP (W : World) (v : Value) (R : IPs) : Prop :=
  ∃ p cap, v = .slice p R.length cap ∧ R.length ≤ cap ∧ ∀ (i : Nat) q, R[i]? = some q → ∃ g o, p = some ⟨g, o, none⟩ ∧ W.cell? ⟨g, o + i * 2, none⟩ = some (.int .u32 q.1) ∧ W.cell? ⟨g, o + i * 2 + 1, none⟩ = some (.int .i64 q.2)
theorem RdP.fr {W W' : World} {v : Value} {R : IPs} (h : RdP W v R) (f : Fr [] W W') : RdP W' v R := by
  obtain ⟨p, cap, rfl, hc, h0⟩ := h
  refine ⟨p, cap, rfl, hc, fun i q hq => ?_⟩
  obtain ⟨g, o, rfl, h1, h2⟩ := h0 i q hq
  exact ⟨g, o, rfl, (f.cell (World.block_lt_of_cell? W _ h1) (by simp)).trans h1, (f.cell (World.block_lt_of_cell? W _ h2) (by simp)).trans h2⟩
theorem RdP.of_own {W : World} {v : Value} {R : IPs} {n : Nat} (h : W.ownsRow 0 154 2 v n (flat payN R)) : RdP W v R := by
  have hn : R.length = n := by
    have h1 := h.1
    rw [flat_len wideN] at h1
    omega
  rcases h.2 with ⟨rfl, rfl⟩ | ⟨g, cap, cur, rfl, _, hg, hnc, _⟩
  · refine ⟨none, 0, by rw [hn], by omega, fun i q hq => ?_⟩
    have := (List.getElem?_eq_some_iff.1 hq).1
    omega
  · refine ⟨some ⟨g, 0, none⟩, cap, by rw [hn], by omega, fun i q hq => ⟨g, 0, rfl, ?_, ?_⟩⟩
    · have := h.cells (g := g) rfl (i * 2) _ (flat_id wideN hq)
      rw [Addr.add_lit] at this
      simpa using this
    · have := h.cells (g := g) rfl (i * 2 + 1) _ (flat_pay wideN hq (j := 0) rfl)
      rw [Addr.add_lit] at this
      simpa using this
theorem RefT.rd {W : World} {b : Nat} {v : Value} {R : IPs} {room : Int} (h : RefT W b v R room) : RdP W v R := RdP.of_own h.own
theorem RefT.fr {S : List Nat} {W W' : World} {b : Nat} {v : Value} {R : IPs} {room : Int} (h : RefT W b v R room) (hf : Fr S W W') (h1 : b ∉ S) (h2 : ∀ g, v.ownBlock = some g → g ∉ S) : RefT W' b v R room :=
  ⟨hf.blk h.hd h1, own_fr h.own hf h2, h.up, h.ids, h.lim⟩
theorem RefT.grow {W W' : World} {b : Nat} {v : Value} {R : IPs} {room : Int} (h : RefT W b v R room) (hf : Fr [] W W') : RefT W' b v R room := h.fr hf (by simp) (by simp)
theorem RefT.notin {W : World} {b : Nat} {v : Value} {R : IPs} {room : Int} (h : RefT W b v R room) : b ∉ v.ownBlock.toList := own_notin h.own h.hd (by decide)
end Go.Proofs.YtgoolkgjcmdilaaDoor
end
section
namespace Go.Proofs.YtgoolkgjcmdilaaDoor
open Go.RowKit
set_option linter.unusedVariables false
set_option linter.unusedSimpArgs false
attribute [local go_sem] Oper.semAt_some
def Src (w : World) (v : Value) (m size : Nat) (news : List Value) : Prop :=
  (v = .slice none 0 0 ∧ m = 0 ∧ news = []) ∨ ∃ ad c, v = .slice (some ad) m c ∧ news.length = m * size ∧ ∀ j u, news[j]? = some u → w.cell? (ad.add j) = some u
theorem Src.fr0 {w w' : World} {v : Value} {m size : Nat} {news : List Value} (h : Src w v m size news) (f : Fr [] w w') : Src w' v m size news := by
  rcases h with h | ⟨ad, c, h1, h2, h3⟩
  · exact .inl h
  · exact .inr ⟨ad, c, h1, h2, fun j u hj => (f.cell (World.block_lt_of_cell? w _ (h3 j u hj)) (by simp)).trans (h3 j u hj)⟩
theorem Src.of_own {w : World} {e size n : Nat} {v : Value} {xs : List Value} (h : w.ownsRow 0 e size v n xs) : Src w v n size xs := by
  rcases h.2 with ⟨rfl, rfl⟩ | ⟨g, cap, cur, rfl, _⟩
  · exact .inl ⟨rfl, rfl, by have := h.1; simpa using this⟩
  · exact .inr ⟨_, cap, rfl, h.1, h.cells (g := g) rfl⟩
end Go.Proofs.YtgoolkgjcmdilaaDoor
end
section
namespace Go.Proofs.YtgoolkgjcmdilaaDoor
open Go.RowKit
set_option linter.unusedVariables false
set_option linter.unusedSimpArgs false
attribute [local go_sem] Oper.semAt_some
theorem own_form {w : World} {base e size k : Nat} {v : Value} {xs : List Value} (h : w.ownsRow base e size v k xs) : ∃ p c, v = .slice p k c := by
  rcases h.2 with ⟨rfl, rfl⟩ | ⟨g, cap, cur, rfl, _⟩
  · exact ⟨_, _, rfl⟩
  · exact ⟨_, _, rfl⟩
end Go.Proofs.YtgoolkgjcmdilaaDoor
end
section
namespace Go.Proofs.YtgoolkgjcmdilaaDoor
open Go.RowKit
set_option linter.unusedVariables false
set_option linter.unusedSimpArgs false
attribute [local go_sem] Oper.semAt_some
theorem DeB.fr {S : List Nat} {W W' : World} (h : DeB W) (hf : Fr S W W') (hs : 1 ∉ S) : DeB W' :=
  fun i hi => (hf.cell (World.block_lt_of_cell? W _ (h i hi)) hs).trans (h i hi)
theorem DeB.one {W : World} (h : DeB W) : 1 < W.heap.size := World.block_lt_of_cell? W _ (h 0 (by decide))
end Go.Proofs.YtgoolkgjcmdilaaDoor
end
section
namespace Go.Proofs.YtgoolkgjcmdilaaDoor
open Go.RowKit
set_option linter.unusedVariables false
section
variable {F : Fence} {n : Nat} {P : Program}
/-- **The range over a function, within a round of another one.** -/
theorem wpIn_range_in {α : Type} {g : Operand} {ps : Array Tmp} {assign body : Code} {Q : Exit → Act → World → Prop} {a : Act} {w : World}
    {l₀ : Nat} {r₀ : Loop} (hro : F.round = some l₀) (hr₀ : w.heap[l₀]? = some (.loop r₀)) (h1 : 1 ≤ n) {gf : Nat} {lb : Array Value} (hg : a.eval g = .func (.func gf) #[] lb) (hFg : F.fn gf) (eg : ∀ args w, (callFunc gf args).run P w = .ok (.enter gf args) w)
    {encs : α → Array Value} {Rs : List Nat} {Kp : World → World → Prop} {S Sp : List α → Prop} {N : Nat} {Pre En : World → Prop} (hseq : Tells F (n - 1) P gf lb encs Rs Kp S Sp N Pre En)
    (hKt : ∀ {A B C : World}, Kp A B → Kp B C → Kp A C) (hKb : ∀ (W : World) (l : Nat) (o o' : Obj), l = w.heap.size → W.heap[l]? = some o → o.isCells = false → Kp W (W.putObj l o'))
    (hPre : ∀ W, Fr [] w W → W.heap.size = w.heap.size + 1 → Pre W) (hEn : ∀ (W : World) (l : Nat) (o o' : Obj), l = w.heap.size → W.heap[l]? = some o → o.isCells = false → En W → En (W.putObj l o'))
    (hRs : ∀ r, r ∈ Rs → r < w.heap.size) (hps : ∀ x, (encs x).size = ps.size)
    (I : List α → World → Prop) (Ix : Code → List α → World → Prop) (hI : Ab w.heap.size Rs I) (hIx : ∀ c, Ab w.heap.size Rs (Ix c)) (h0 : I [] w) (Ax : α → Act → World → Prop) (hAx : ∀ x a', OwnFrom w.heap.size (fun (_ : Unit) W => Ax x a' W))
    (hassign : ∀ (l : Nat) (pre : List α) (x : α) (W : World) (K : Act → World → Prop), I pre W → (∀ a' W', KeepsFrom w.heap.size W W' → Kp W W' → I pre W' → Ax x a' W' → K a' W') →
      assign.wpIn (F.inRound l) (n - 1 - 1) P (Exit.then K (fun _ _ _ => False)) { tmps := (ps.zip (encs x)).foldl (fun t (p, v) => t.setIfInBounds p v) a.tmps, defers := [] } W)
    (hbody : ∀ (l : Nat) (pre : List α) (x : α) (a' : Act) (W : World), w.heap.size ≤ l → (∃ r, W.heap[l]? = some (.loop r)) → I pre W → Ax x a' W → pre.length < N → body.wpIn (F.inRound l) (n - 1 - 1) P (leftBy w.heap.size Kp I Ix (pre ++ [x]) W) a' W)
    (hdone : ∀ (xs : List α) (W : World), S xs → I xs W → En W → Q .normal a W)
    (hstop : ∀ (c : Code) (pre : List α) (W : World), Sp pre → Ix c pre W → En W → c.wpIn F n P Q a W) :
    (Code.rangeFunc g ps assign body).wpIn F n P Q a w := by
  refine wpIn_rangeFunc fun fn hfn => ?_
  rw [hro]
  obtain ⟨z, hz⟩ : ∃ z, z = w.heap.size := ⟨_, rfl⟩
  obtain ⟨W1, hW1⟩ : ∃ W1, w.alloc (.loop (lrec fn a.tmps ps assign body r₀.defers .ready none)) = W1 := ⟨_, rfl⟩
  have hL1 : W1.heap[z]? = some (.loop (lrec fn a.tmps ps assign body r₀.defers .ready none)) := by
    rw [← hW1, hz]
    exact World.alloc_heap_new w _
  have hsz : W1.heap.size = z + 1 := by rw [← hW1, hz]; simp
  have hI1 : I [] W1 := by rw [← hW1]; exact hI.alloc h0 _
  have hF1 : Fr [] w W1 := by rw [← hW1]; exact (Fr.refl [] w).alloc _
  refine ⟨z, [], W1, { target := .fn (.func gf) lb, args := #[.func (.yield z) #[] #[]] }, W1, gf, #[.func (.yield z) #[] #[]] ++ lb, W1, ?_, ?_, ?_, ?_, fun _ => h1, ?_⟩
  · rw [← hW1, hz]; exact run_enterLoop_inner hr₀ _ _ _ _ _
  · simp only [resolve, hg]
    simp [go_sem]
  · intro f' hf'; simp [Target.leads] at hf'; subst hf'; exact hFg
  · simp [invoke, go_sem, eg]
  rw [← hz] at hKb hEn hRs hI hIx hAx hassign hbody
  have hout : ∀ {A A' : World} {row : Option Nat}, A.grownBy A' row → (∀ r, row = some r → r ∈ Rs ∨ (W1.heap.size ≤ r ∧ ∃ o : Obj, A.heap[r]? = some o ∧ o.isCells = false)) → ∀ {o : Obj}, A.heap[z]? = some o → A'.heap[z]? = some o := by
    intro A A' row hg hr o ho
    refine (hg.block z (Array.getElem?_eq_some_iff.1 ho).1 (fun e => ?_)).trans ho
    rcases hr z e.symm with h | h
    · have := hRs z h; omega
    · omega
  have habs : ∀ {A : World} {row : Option Nat}, (∀ r, row = some r → r ∈ Rs ∨ (W1.heap.size ≤ r ∧ ∃ o : Obj, A.heap[r]? = some o ∧ o.isCells = false)) → (∀ r, row = some r → r ∈ Rs ∨ (z ≤ r ∧ ∃ o : Obj, A.heap[r]? = some o ∧ o.isCells = false)) :=
    fun hr r e => (hr r e).imp id (fun h => ⟨by omega, h.2⟩)
  refine (hseq z
    (fun pre W => I pre W ∧ W.heap[z]? = some (.loop (lrec fn a.tmps ps assign body r₀.defers .ready none)))
    (fun pre W => ∃ c, Ix c pre W ∧ W.heap[z]? = some (.loop (lrec fn a.tmps ps assign body r₀.defers .done (some c))))
    W1 (hPre _ hF1 (by omega))
    (fun s A A' row h hg hr => ⟨hI s A A' row h.1 hg (habs hr), hout hg hr h.2⟩)
    (fun s A A' row h hg hr => by
      obtain ⟨c, hc, hl⟩ := h
      exact ⟨c, hIx c s A A' row hc hg (habs hr), hout hg hr hl⟩)
    ?_ ⟨hI1, hL1⟩).mono ?_
  · rintro pre x W ⟨hi, hl⟩ hlen
    refine yield_left (α := α) (B := z) (J := I) (Jx := Ix) (Kp := Kp) (xs := pre ++ [x]) hfn hl (hps x) (Nat.le_refl _)
      (hassign z pre x W _ hi ?_)
    intro a' Wa hka hpa hia hax
    have hla := hka.same z _ (Nat.le_refl _) hl rfl
    have hlt := (Array.getElem?_eq_some_iff.1 hla).1
    have hbusy : (Wa.putObj z (.loop (lrec fn a.tmps ps assign body r₀.defers .busy none))).heap[z]? = some (.loop (lrec fn a.tmps ps assign body r₀.defers .busy none)) := World.putObj_heap_same hlt
    have hp2 := hKt hpa (hKb Wa z _ (.loop (lrec fn a.tmps ps assign body r₀.defers .busy none)) rfl hla rfl)
    refine ⟨hka, hbody z pre x a' _ (Nat.le_refl _) ⟨_, hbusy⟩ (hI.put hia hla (Nat.le_refl _) rfl _) ((hAx x a').putObj (s := ()) _ hax (Nat.le_refl _) hla rfl) hlen, ?_⟩
    · intro W3 hk3 hp3 hl3
      have hlt3 := (Array.getElem?_eq_some_iff.1 hl3).1
      refine ⟨fun h => ⟨hKt (hKt hp2 hp3) (hKb _ _ _ _ rfl hl3 rfl), .inl ⟨rfl, hI.put h hl3 (Nat.le_refl _) rfl _, World.putObj_heap_same hlt3⟩⟩,
        fun c h => ⟨hKt (hKt hp2 hp3) (hKb _ _ _ _ rfl hl3 rfl), .inr ⟨rfl, c, (hIx c).put h hl3 (Nat.le_refl _) rfl _, World.putObj_heap_same hlt3⟩⟩⟩
  · rintro e W2 ⟨⟨v, rfl⟩, hen, (⟨xs, hS, hi, hl⟩ | ⟨pre, hSp, c, hi, hl⟩)⟩
    · exact ⟨none, _, run_endLoop hl (by simp [lrec]), hdone xs _ hS (hI.put hi hl (Nat.le_refl _) rfl _) (hEn _ _ _ _ rfl hl rfl hen)⟩
    · exact ⟨some c, _, run_endLoop hl (by simp [lrec]), hstop c pre _ hSp ((hIx c).put hi hl (Nat.le_refl _) rfl _) (hEn _ _ _ _ rfl hl rfl hen)⟩
/-- .. where what the assign code leaves is said by the frame ahead of it. -/
theorem wpIn_range_tm {α : Type} {g : Operand} {ps : Array Tmp} {assign body : Code} {Q : Exit → Act → World → Prop} {a : Act} {w : World}
    (hro : F.round = none) (h1 : 1 ≤ n) {gf : Nat} {lb : Array Value} (hg : a.eval g = .func (.func gf) #[] lb) (hFg : F.fn gf) (eg : ∀ args w, (callFunc gf args).run P w = .ok (.enter gf args) w)
    {encs : α → Array Value} {Rs : List Nat} {Kp : World → World → Prop} {S Sp : List α → Prop} {N : Nat} {Pre En : World → Prop} (hseq : Tells F (n - 1) P gf lb encs Rs Kp S Sp N Pre En)
    (hKt : ∀ {A B C : World}, Kp A B → Kp B C → Kp A C) (hKb : ∀ (W : World) (l : Nat) (o o' : Obj), l = w.heap.size + 1 → W.heap[l]? = some o → o.isCells = false → Kp W (W.putObj l o'))
    (hPre : ∀ W, Fr [] w W → W.heap.size = w.heap.size + 2 → Pre W) (hEn : ∀ (W : World) (l : Nat) (o o' : Obj), l = w.heap.size + 1 → W.heap[l]? = some o → o.isCells = false → En W → En (W.putObj l o'))
    (hRs : ∀ r, r ∈ Rs → r < w.heap.size) (hps : ∀ x, (encs x).size = ps.size)
    (I : List α → World → Prop) (Ix : Code → List α → World → Prop) (hI : Ab w.heap.size Rs I) (hIx : ∀ c, Ab w.heap.size Rs (Ix c)) (h0 : I [] w) (Ax : Array Value → α → Act → World → Prop) (hAx : ∀ x a', OwnFrom w.heap.size (fun (_ : Unit) W => Ax a.tmps x a' W))
    (hassign : ∀ (l : Nat) (pre : List α) (x : α) (W : World) (K : Act → World → Prop), I pre W → (∀ a' W', KeepsFrom w.heap.size W W' → Kp W W' → I pre W' → Ax a.tmps x a' W' → K a' W') →
      assign.wpIn (F.inRound l) (n - 1 - 1) P (Exit.then K (fun _ _ _ => False)) { tmps := (ps.zip (encs x)).foldl (fun t (p, v) => t.setIfInBounds p v) a.tmps, defers := [] } W)
    (hbody : ∀ (l : Nat) (pre : List α) (x : α) (a' : Act) (W : World), w.heap.size ≤ l → (∃ r, W.heap[l]? = some (.loop r)) → I pre W → Ax a.tmps x a' W → pre.length < N → body.wpIn (F.inRound l) (n - 1 - 1) P (leftBy w.heap.size Kp I Ix (pre ++ [x]) W) a' W)
    (hdone : ∀ (D : Nat) (xs : List α) (W : World), w.heap.size ≤ D → S xs → I xs W → En W → W.heap[D]? = some (.deferred (some [])) → Q .normal { a with defers := { target := .collected D, args := #[] } :: a.defers } W)
    (hstop : ∀ (D : Nat) (c : Code) (pre : List α) (W : World), w.heap.size ≤ D → Sp pre → Ix c pre W → En W → W.heap[D]? = some (.deferred (some [])) → c.wpIn F n P Q { a with defers := { target := .collected D, args := #[] } :: a.defers } W) :
    (Code.rangeFunc g ps assign body).wpIn F n P Q a w :=
  wpIn_range hro h1 hg hFg eg hseq hKt hKb hPre hEn hRs hps I Ix hI hIx h0 (Ax a.tmps) hAx hassign hbody hdone hstop
/-- A contract goes into a round as it is. -/
theorem Tells.inRound {α : Type} {F : Fence} {n : Nat} {P : Program} {g : Nat} {lb : Array Value} {encs : α → Array Value} {Rs : List Nat} {Kp : World → World → Prop} {S Sp : List α → Prop} {N : Nat} {Pre En : World → Prop} (l : Nat) (h : Tells F n P g lb encs Rs Kp S Sp N Pre En) :
    Tells (F.inRound l) n P g lb encs Rs Kp S Sp N Pre En := h
end
end Go.Proofs.YtgoolkgjcmdilaaDoor
end
section
namespace Go.Proofs.YtgoolkgjcmdilaaDoor
open Go.RowKit
set_option linter.unusedVariables false
set_option linter.unusedSimpArgs false
attribute [local go_sem] Oper.semAt_some
abbrev VPL := List (Int × (Int × ByteArray))
/-- What a round keeps: these blocks; the books from B on. -/
def Kpb (S : List Nat) (B : Nat) (W W' : World) : Prop := (∀ k, k ∈ S → W'.heap[k]? = W.heap[k]?) ∧ KeepsFrom B W W'
theorem Kpb.trans {S : List Nat} {D : Nat} {A B C : World} (h : Kpb S D A B) (k : Kpb S D B C) : Kpb S D A C := ⟨fun i hi => (k.1 i hi).trans (h.1 i hi), h.2.trans k.2⟩
theorem Kpb.put {S : List Nat} {W : World} {B l : Nat} (o' : Obj) (hl : l ∉ S) (hB : l < B) : Kpb S B W (W.putObj l o') :=
  ⟨fun k hk => World.putObj_heap_other (by rintro rfl; exact hl hk), by simp [World.putObj], fun k o hk h _ => (World.putObj_heap_other (by omega)).trans h⟩
theorem Kpb.of_fr {S T : List Nat} {W W' : World} (B : Nat) (h : Fr T W W') (hs : ∀ k, k ∈ S → k < W.heap.size ∧ k ∉ T) (ht : ∀ k, k ∈ T → ∃ c e, Blk W k c e) : Kpb S B W W' :=
  ⟨fun k hk => h.block k (hs k hk).1 (hs k hk).2, kf_of_fr B h ht⟩
/-- The pairs lie there. -/
def VHeld (k : Nat) (lv : Value) (L : VPL) (W : World) : Prop := Blk W k #[lv] 66 ∧ W.ownsRow 0 143 3 lv L.length (flat payV L)
theorem VHeld.kpb {B k : Nat} {lv : Value} {L : VPL} {W W' : World} (h : VHeld k lv L W) (f : Kpb (k :: lv.ownBlock.toList) B W W') : VHeld k lv L W' := by
  refine ⟨(f.1 k (by simp)).trans h.1, h.2.1, ?_⟩
  rcases h.2.2 with hn | ⟨g, cap, cur, rfl, hb, hgg, rest⟩
  · exact .inl hn
  · exact .inr ⟨g, cap, cur, rfl, hb, (f.1 g (by simp [Value.ownBlock])).trans hgg, rest⟩
theorem VHeld.fr0 {k : Nat} {lv : Value} {L : VPL} {W W' : World} (h : VHeld k lv L W) (f : Fr [] W W') : VHeld k lv L W' := ⟨f.blk h.1 (by simp), own_fr h.2 f (by simp)⟩
theorem grown_fr {W W' : World} (f : Fr [] W W') : W.grownBy W' none := ⟨f.os, f.tape, f.output, f.size, fun k hk _ => f.block k hk (by simp)⟩
theorem VHeld.at {W : World} {k g cap n : Nat} {L : VPL} (h : VHeld k (.slice (some ⟨g, 0, none⟩) n cap) L W) {i : Nat} {p : Int} {x : Int × ByteArray} (hx : L[i]? = some (p, x)) : W.cell? ⟨g, i * 3, none⟩ = some (.int .u32 p) ∧ W.cell? ⟨g, i * 3 + 1, none⟩ = some (.int .i64 x.1) ∧ W.cell? ⟨g, i * 3 + 2, none⟩ = some (.string x.2) := by
  have hr : RowV W g L := fun j u hu => by
    have := h.2.cells (g := g) rfl j u hu
    rw [Addr.add_lit] at this
    simpa using this
  exact hr.at hx
end Go.Proofs.YtgoolkgjcmdilaaDoor
end
section
namespace Go.Proofs.YtgoolkgjcmdilaaDoor
open Go.RowKit
set_option linter.unusedVariables false
set_option linter.unusedSimpArgs false
attribute [local go_sem] Oper.semAt_some
theorem eqlNil88 (a : Addr) (n c : Nat) (w : World) : (binOp .eql 88 (.slice (some a) n c) (.slice none 0 0)).run Tryd.prog w = .ok (.bool false) w := by
  exact Lib.run_eql_slice_nil _ _ _ _ _ _ _ _ Tryd.underlying88
attribute [local go_sem] eqlNil88
/-- What an iterator over a set needs. -/
def BHeld (k b2 : Nat) (v2 : Value) (B : List Bool) (ws : List Nat) (W : World) : Prop := Blk W k #[.pointer (some ⟨b2, 0, none⟩)] 72 ∧ BitsAt W b2 v2 B ws ∧ DeB W
def bS (k b2 : Nat) (v2 : Value) : List Nat := 1 :: k :: b2 :: v2.ownBlock.toList
theorem BHeld.of {k b2 : Nat} {v2 : Value} {B : List Bool} {ws : List Nat} {W W' : World} (h : BHeld k b2 v2 B ws W) (f : ∀ j, j ∈ bS k b2 v2 → W'.heap[j]? = W.heap[j]?) : BHeld k b2 v2 B ws W' := by
  refine ⟨(f k (by simp [bS])).trans h.1, ⟨(f b2 (by simp [bS])).trans h.2.1.hd, ⟨h.2.1.own.1, ?_⟩, h.2.1.nn, h.2.1.len, h.2.1.lt, h.2.1.bits, h.2.1.lim⟩, fun i hi => (World.cell?_of_block (w := W) (f 1 (by simp [bS]))).trans (h.2.2 i hi)⟩
  rcases h.2.1.own.2 with hn | ⟨g, cap, cur, rfl, hb, hgg, rest⟩
  · exact .inl hn
  · exact .inr ⟨g, cap, cur, rfl, hb, (f g (by simp [bS, Value.ownBlock])).trans hgg, rest⟩
theorem BHeld.kpb {B0 k b2 : Nat} {v2 : Value} {B : List Bool} {ws : List Nat} {W W' : World} (h : BHeld k b2 v2 B ws W) (f : Kpb (bS k b2 v2) B0 W W') : BHeld k b2 v2 B ws W' := h.of f.1
theorem BHeld.lt {k b2 : Nat} {v2 : Value} {B : List Bool} {ws : List Nat} {W : World} (h : BHeld k b2 v2 B ws W) : ∀ j, j ∈ bS k b2 v2 → j < W.heap.size := by
  intro j hj
  simp only [bS, List.mem_cons, Option.mem_toList] at hj
  rcases hj with q | q | q | q
  · rw [q]; exact World.block_lt_of_cell? W _ (h.2.2 0 (by decide))
  · rw [q]; exact h.1.lt
  · rw [q]; exact h.2.1.hd.lt
  · exact own_lt h.2.1.own q
theorem BHeld.fr {k b2 : Nat} {v2 : Value} {B : List Bool} {ws : List Nat} {S : List Nat} {W W' : World} (h : BHeld k b2 v2 B ws W) (f : Fr S W W') (hs : ∀ j, j ∈ bS k b2 v2 → j ∉ S) : BHeld k b2 v2 B ws W' := h.of fun j hj => f.block j (h.lt j hj) (hs j hj)
theorem BHeld.set {k b2 : Nat} {v2 : Value} {B : List Bool} {ws : List Nat} {W : World} (h : BHeld k b2 v2 B ws W) : BitsAt W b2 v2 B ws := h.2.1
theorem BHeld.deb {k b2 : Nat} {v2 : Value} {B : List Bool} {ws : List Nat} {W : World} (h : BHeld k b2 v2 B ws W) : DeB W := h.2.2
end Go.Proofs.YtgoolkgjcmdilaaDoor
end
section
namespace Go.Proofs.YtgoolkgjcmdilaaDoor
open Go.RowKit
set_option linter.unusedVariables false
set_option linter.unusedSimpArgs false
attribute [local go_sem] Oper.semAt_some
/-- A set and the document's. -/
structure PB (b m : Nat) (v u : Value) (B : List Bool) (W : World) : Prop where
  set : ∃ ws, BitsAt W b v B ws
  ref : RefB W m u B
theorem PB.grow {b m : Nat} {v u : Value} {B : List Bool} {W W' : World} (h : PB b m v u B W) (f : Fr [] W W') : PB b m v u B W' := by
  obtain ⟨ws, h1⟩ := h.set
  exact ⟨⟨ws, h1.grow f⟩, h.ref.grow f⟩
theorem add_any (w : World) (b : Nat) (v : Value) (B : List Bool) (ws : List Nat) (i : Int) (h : BitsAt w b v B ws) : Calls Tryd.prog 34 #[.pointer (some ⟨b, 0, none⟩), .int .i64 i] w fun e w' => e = .returned (.bool (addA B i)) ∧ (∃ ws', BitsAt w' b v (addB B i) ws') ∧ Fr v.ownBlock.toList w w' := by
  unfold addB
  by_cases h1 : 0 ≤ i ∧ i < (B.length : Int)
  · cases hb : hasB B i with
    | true =>
      have ha : addA B i = false := by unfold addA; rw [hb]; simp
      rw [ha, if_neg (by decide)]
      refine (add_not w b v B ws i h (.inr hb)).mono fun e w' hp => ?_
      obtain ⟨he, rfl⟩ := hp
      exact ⟨he, ⟨ws, h⟩, Fr.refl _ _⟩
    | false =>
      have ha : addA B i = true := by unfold addA; rw [hb, decide_eq_true h1]; rfl
      rw [ha, if_pos rfl]
      obtain ⟨m, rfl⟩ : ∃ m : Nat, i = m := ⟨i.toNat, by omega⟩
      rw [hasB_nat] at hb
      rw [Int.toNat_natCast]
      refine (add_new w b v B ws m h (by omega) hb).mono fun e w' hp => ?_
      obtain ⟨he, ws', h2, h3⟩ := hp
      exact ⟨he, ⟨ws', h2⟩, h3⟩
  · have ha : addA B i = false := by unfold addA; rw [decide_eq_false h1]; rfl
    rw [ha, if_neg (by decide)]
    refine (add_not w b v B ws i h (.inl h1)).mono fun e w' hp => ?_
    obtain ⟨he, rfl⟩ := hp
    exact ⟨he, ⟨ws, h⟩, Fr.refl _ _⟩
theorem bdel_any (w : World) (b : Nat) (v : Value) (B : List Bool) (ws : List Nat) (i : Int) (h : BitsAt w b v B ws) : Calls Tryd.prog 80 #[.pointer (some ⟨b, 0, none⟩), .int .i64 i] w fun e w' => e = .returned (.bool (hasB B i)) ∧ (∃ ws', BitsAt w' b v (delB B i) ws') ∧ Fr v.ownBlock.toList w w' := by
  unfold delB
  cases hb : hasB B i with
  | true =>
    rw [if_pos rfl]
    obtain ⟨m, rfl, hm⟩ := hasB_in hb
    rw [hasB_nat] at hb
    rw [Int.toNat_natCast]
    refine (bdel_yes w b v B ws m h hm hb).mono fun e w' hp => ?_
    obtain ⟨he, ws', h2, h3⟩ := hp
    exact ⟨he, ⟨ws', h2⟩, h3⟩
  | false =>
    rw [if_neg (by decide)]
    refine (bdel_not w b v B ws i h hb).mono fun e w' hp => ?_
    obtain ⟨he, rfl⟩ := hp
    exact ⟨he, ⟨ws, h⟩, Fr.refl _ _⟩
theorem own_ne3 {w : World} {e e' : TypeId} {s s' k k' g : Nat} {v v' : Value} {xs xs' : List Value} (h : w.ownsRow 0 e s v k xs) (h' : w.ownsRow 0 e' s' v' k' xs') (hn : e ≠ e') (hg : v.ownBlock = some g) : g ∉ v'.ownBlock.toList := by
  obtain ⟨c, hc⟩ := own_blk h g (by simp [hg])
  exact own_notin h' hc (Ne.symm hn)
/-- In the midst of a region that changes both. -/
structure RgB (w1 : World) (b m : Nat) (v u : Value) (B B' : List Bool) (p : Nat → Prop) (tm : Nat → Option Value) (W : World) : Prop where
  fr : Fr (v.ownBlock.toList ++ u.ownBlock.toList) w1 W
  s0 : ¬ p 3 → ∃ ws, BitsAt W b v B ws
  s1 : p 3 → ∃ ws, BitsAt W b v B' ws
  r0 : ¬ p 7 → RefB W m u B
  r1 : p 7 → RefB W m u B'
theorem RgB.keep {w1 W W' : World} {b m : Nat} {v u : Value} {B B' : List Bool} {p : Nat → Prop} {tm tm' : Nat → Option Value} (h : RgB w1 b m v u B B' p tm W) {i : Nat} (h3 : 3 ≠ i) (h7 : 7 ≠ i) (f : Fr [] W W') : RgB w1 b m v u B B' (fun k => p k ∨ k = i) tm' W' := by
  refine ⟨h.fr.trans f (by simp), fun hn => ?_, fun hp => ?_, fun hn => (h.r0 (fun hp => hn (.inl hp))).grow f, fun hp => (h.r1 (hp.resolve_right h7)).grow f⟩
  · obtain ⟨ws, q⟩ := h.s0 (fun hp => hn (.inl hp))
    exact ⟨ws, q.grow f⟩
  · obtain ⟨ws, q⟩ := h.s1 (hp.resolve_right h3)
    exact ⟨ws, q.grow f⟩
theorem deB_fr2 {w W : World} (h : DeB w) (f : Fr [] w W) : DeB W := fun i hi => (f.cell (World.block_lt_of_cell? w _ (h i hi)) (by simp)).trans (h i hi)
end Go.Proofs.YtgoolkgjcmdilaaDoor
end
