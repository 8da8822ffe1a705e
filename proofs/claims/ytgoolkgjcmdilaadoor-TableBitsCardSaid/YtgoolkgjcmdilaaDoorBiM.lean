/-
  TableBits: what memory is between two steps.
-/
import Derived.Test.YtgoolkgjcmdilaaDoorBiL
namespace Go.Proofs.YtgoolkgjcmdilaaDoor
open Go.RowKit
set_option linter.unusedVariables false
set_option linter.unusedSimpArgs false

/-- The rows of a set and of the document's. -/
def rows2 (v u : Value) : List Nat := v.ownBlock.toList ++ u.ownBlock.toList
theorem PB.rowty {b m : Nat} {v u : Value} {B : List Bool} {W : World} (h : PB b m v u B W) : ∀ g, g ∈ rows2 v u → ∃ c e, Blk W g c e ∧ (e = 96 ∨ e = 4) := by
  intro g hg
  obtain ⟨ws, hs⟩ := h.set
  rcases List.mem_append.1 hg with q | q
  · obtain ⟨c, hc⟩ := own_blk hs.own g q
    exact ⟨c, 96, hc, .inl rfl⟩
  · obtain ⟨c, hc⟩ := own_blk h.ref.own g q
    exact ⟨c, 4, hc, .inr rfl⟩
theorem PB.off {b m : Nat} {v u : Value} {B : List Bool} {W : World} (h : PB b m v u B W) {k : Nat} {d : Array Value} {t : TypeId} (hb : Blk W k d t) (h1 : t ≠ 96) (h2 : t ≠ 4) : k ∉ rows2 v u := by
  intro hk
  obtain ⟨c, e, hc, he⟩ := h.rowty k hk
  have := (hb.inj hc).2
  rcases he with q | q
  · exact h1 (this.trans q)
  · exact h2 (this.trans q)
theorem PB.fr {b m : Nat} {v u : Value} {B : List Bool} {S : List Nat} {W W' : World} (h : PB b m v u B W) (f : Fr S W W') (h1 : b ∉ S) (h2 : m ∉ S) (h3 : ∀ g, g ∈ rows2 v u → g ∉ S) : PB b m v u B W' := by
  obtain ⟨ws, hs⟩ := h.set
  exact ⟨⟨ws, hs.fr f h1 (fun g hg => h3 g (by simp [rows2, hg]))⟩, h.ref.fr f h2 (fun g hg => h3 g (by simp [rows2, hg]))⟩
/-- Three sets and the document's. -/
structure TB (w : World) (bf mf : Nat → Nat) (vf uf : Nat → Value) (Bf : Nat → List Bool) (W : World) : Prop where
  each : ∀ k, k < 3 → PB (bf k) (mf k) (vf k) (uf k) (Bf k) W
  low : ∀ k, k < 3 → ∀ g, g ∈ rows2 (vf k) (uf k) → w.heap.size ≤ g
  sep : ∀ j k, j < 3 → k < 3 → j ≠ k → ∀ g, g ∈ rows2 (vf j) (uf j) → g ∉ rows2 (vf k) (uf k)
  fr : Fr [] w W
theorem TB.grow {w W W' : World} {bf mf : Nat → Nat} {vf uf : Nat → Value} {Bf : Nat → List Bool} (h : TB w bf mf vf uf Bf W) (f : Fr [] W W') : TB w bf mf vf uf Bf W' := ⟨fun k hk => (h.each k hk).grow f, h.low, h.sep, h.fr.trans f (by simp)⟩
def updB (Bf : Nat → List Bool) (a : Nat) (B' : List Bool) : Nat → List Bool := fun k => if k = a then B' else Bf k
/-- A walk taken half way, and what it is to tell. -/
def Half (hv vw : Value) (vf uf : Nat → Value) (W : World) : Prop :=
  ∃ k b2 v2 B ws, hv = .func (.func 78) #[] #[.pointer (some ⟨k, 0, none⟩)] ∧ BHeld k b2 v2 B ws W ∧ W.ownsRow 0 3 1 vw (onesI B B.length).length (ints (onesI B B.length)) ∧ ∀ j, j < 3 → ∀ g, g ∈ rows2 (vf j) (uf j) → g ∉ bS k b2 v2
theorem Half.grow {hv vw : Value} {vf uf : Nat → Value} {W W' : World} (h : Half hv vw vf uf W) (f : Fr [] W W') : Half hv vw vf uf W' := by
  obtain ⟨k, b2, v2, B, ws, h1, h2, h3, h4⟩ := h
  exact ⟨k, b2, v2, B, ws, h1, h2.fr f (by simp), own_fr h3 f (by simp), h4⟩
theorem tb_bit {w W : World} {bf mf : Nat → Nat} {vf uf : Nat → Value} {Bf : Nat → List Bool} {hv vw : Value} (h : TB w bf mf vf uf Bf W) (hh : Half hv vw vf uf W) (hT : DeB w) {a c : Nat} (ha : a < 3) (hc : c < 3) (x : Btt) :
    Calls Tryd.prog 30 #[.pointer (some ⟨bf a, 0, none⟩), .pointer (some ⟨bf c, 0, none⟩), .pointer (some ⟨mf a, 0, none⟩), .pointer (some ⟨mf c, 0, none⟩), x.val'] W fun e W' => e = .returned (.bool true) ∧ TB w bf mf vf uf (updB Bf a (stepB (Bf a) (Bf c) x)) W' ∧ Half hv vw vf uf W' ∧ KeepsTy [73, 75] W W' := by
  refine (bit_any W (bf a) (bf c) (mf a) (mf c) (vf a) (uf a) (vf c) (uf c) (Bf a) (Bf c) x (h.each a ha) (h.each c hc) (deB_fr2 hT h.fr)).mono fun e W' hp => ?_
  obtain ⟨he, hp, f⟩ := hp
  have f' : Fr (rows2 (vf a) (uf a)) W W' := f
  refine ⟨he, ⟨fun k hk => ?_, h.low, h.sep, h.fr.trans f' (fun g hg => .inr (h.low a ha g hg))⟩, ?_, KeepsTy.of_fr f' (fun k hk => ?_)⟩
  · unfold updB
    by_cases hka : k = a
    · subst hka; rw [if_pos rfl]; exact hp
    · rw [if_neg hka]
      have hk2 := h.each k hk
      obtain ⟨ws, hs⟩ := hk2.set
      exact hk2.fr f' ((h.each a ha).off hs.hd (by decide) (by decide)) ((h.each a ha).off hk2.ref.hd (by decide) (by decide)) (fun g hg => h.sep k a hk ha hka g hg)
  · obtain ⟨k, b2, v2, B, ws, h1, h2, h3, h4⟩ := hh
    refine ⟨k, b2, v2, B, ws, h1, h2.fr f' (fun j hj hj2 => h4 a ha j hj2 hj), own_fr h3 f' (fun g hg hg2 => ?_), h4⟩
    obtain ⟨d, hd⟩ := own_blk h3 g (by simp [hg])
    exact (h.each a ha).off hd (by decide) (by decide) hg2
  · obtain ⟨c', e', hc', he'⟩ := (h.each a ha).rowty k hk
    refine ⟨c', e', hc', ?_⟩
    rcases he' with q | q <;> rw [q] <;> decide
theorem onesI_none (n : Nat) : onesI (List.replicate n false) (List.replicate n false).length = [] := by
  unfold onesI onesN
  have : (List.range (List.replicate n false).length).filter (fun k => (List.replicate n false).getD k false) = [] := by
    rw [List.filter_eq_nil_iff]
    intro k _
    rw [List.getD_eq_getElem?_getD, List.getElem?_replicate]
    split <;> simp
  rw [this]
  rfl
/-- A new walk is taken, and what it is to tell. -/
theorem half_new {w W W2 W3 : World} {bf mf : Nat → Nat} {vf uf : Nat → Value} {Bf : Nat → List Bool} {B : List Bool} {ws : List Nat} {k b2 : Nat} {v2 vw : Value} (h : TB w bf mf vf uf Bf W) (hT : DeB w) (f2 : Fr [] W W2) (hk : Blk W2 k #[.pointer (some ⟨b2, 0, none⟩)] 72) (hb : BitsAt W2 b2 v2 B ws) (hkg : W.heap.size ≤ k) (hbg : W.heap.size ≤ b2) (hg : ∃ g, v2.ownBlock = some g ∧ W.heap.size ≤ g)
    (f3 : Fr [] W2 W3) (ho : W3.ownsRow 0 3 1 vw (onesI B B.length).length (ints (onesI B B.length))) : Half (.func (.func 78) #[] #[.pointer (some ⟨k, 0, none⟩)]) vw vf uf W3 := by
  have hD := deB_fr2 hT (h.fr.trans f2 (by simp))
  have hheld : BHeld k b2 v2 B ws W2 := ⟨hk, hb, hD⟩
  refine ⟨k, b2, v2, B, ws, rfl, hheld.fr f3 (by simp), ho, fun j hj g hgr hgS => ?_⟩
  have hlow := h.low j hj g hgr
  obtain ⟨c, e, hc, _⟩ := (h.each j hj).rowty g hgr
  have hlt := hc.lt
  have h1w : 1 < w.heap.size := World.block_lt_of_cell? w _ (hT 0 (by decide))
  simp only [bS, List.mem_cons, Option.mem_toList] at hgS
  obtain ⟨g', hg1, hg2⟩ := hg
  rcases hgS with q | q | q | q
  · omega
  · omega
  · omega
  · rw [hg1] at q; cases q; omega
/-- A script of steps reads. -/
def RdBt (w : World) (v : Value) (l : List Btt) : Prop :=
  ∃ p cap, v = .slice p l.length cap ∧ (l.length = 0 ∨ ∃ g o, p = some ⟨g, o, none⟩ ∧ ∀ j x, l[j]? = some x → w.cell? ⟨g, o + j * 4, none⟩ = some (.int .i64 x.do) ∧ w.cell? ⟨g, o + j * 4 + 1, none⟩ = some (.int .i64 x.on) ∧ w.cell? ⟨g, o + j * 4 + 2, none⟩ = some (.int .i64 x.wi) ∧ w.cell? ⟨g, o + j * 4 + 3, none⟩ = some (.int .i64 x.i))
theorem cell3 {W : World} {bt : Nat} {f : Nat → Nat} {t : TypeId} (h : Blk W bt #[.pointer (some ⟨f 0, 0, none⟩), .pointer (some ⟨f 1, 0, none⟩), .pointer (some ⟨f 2, 0, none⟩)] t) {a : Nat} (ha : a < 3) : W.cell? ⟨bt, a, none⟩ = some (.pointer (some ⟨f a, 0, none⟩)) := by
  have : a = 0 ∨ a = 1 ∨ a = 2 := by omega
  rcases this with rfl | rfl | rfl
  · exact h.at 0 rfl
  · exact h.at 1 rfl
  · exact h.at 2 rfl
theorem mod3 (n : Int) : ∃ a : Nat, n % 3 = a ∧ a < 3 := ⟨(n % 3).toNat, by omega, by omega⟩
/-- Between two steps of the script. -/
structure LB (w : World) (bt bm : Nat) (bf mf : Nat → Nat) (vf uf : Nat → Value) (hv vw : Value) (W : World) : Prop where
  ex : ∃ Bf, TB w bf mf vf uf Bf W
  half : Half hv vw vf uf W
  bt : Blk W bt #[.pointer (some ⟨bf 0, 0, none⟩), .pointer (some ⟨bf 1, 0, none⟩), .pointer (some ⟨bf 2, 0, none⟩)] 73
  bm : Blk W bm #[.pointer (some ⟨mf 0, 0, none⟩), .pointer (some ⟨mf 1, 0, none⟩), .pointer (some ⟨mf 2, 0, none⟩)] 75
end Go.Proofs.YtgoolkgjcmdilaaDoor
