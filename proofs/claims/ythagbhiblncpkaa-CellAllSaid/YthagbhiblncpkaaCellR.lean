/-
  What a consumer of Cover keeps; plain lists of a cover.
-/
import Derived.Test.YthagbhiblncpkaaCellQ
import Derived.Test.YthagbhiblncpkaaRangeIn
namespace Go.Proofs.Ythagbhiblncpkaa
open Go.RowKit Go.Shelf
set_option linter.unusedVariables false

theorem Tells.kp {α : Type} {F : Fence} {n : Nat} {P : Program} {g : Nat} {lb : Array Value} {encs : α → Array Value} {Rs : List Nat} {Kp Kp' : World → World → Prop} {S Sp : List α → Prop} {N : Nat} {Pre En : World → Prop}
    (h : Tells F n P g lb encs Rs Kp S Sp N Pre En) (hk : ∀ W W', Kp' W W' → Kp W W') : Tells F n P g lb encs Rs Kp' S Sp N Pre En :=
  fun l J Jx W hW hJ hJx hY h0 => h l J Jx W hW hJ hJx (fun pre x W1 hj hl => (hY pre x W1 hj hl).mono fun e W' hr => ⟨hk _ _ hr.1, hr.2⟩) h0

/-- What a round keeps beside its own list, which lies in the box B: rows of cells that are not that list's. -/
def KpB (B : Nat) (W W' : World) : Prop := W.heap.size ≤ W'.heap.size ∧ ∀ v, Blk W B #[v] 27 → (∀ g, v.ownBlock = some g → g < W.heap.size) →
  (∀ k c, Blk W k c 33 → v.ownBlock ≠ some k → Blk W' k c 33) ∧ ∃ v', Blk W' B #[v'] 27 ∧ ∀ g, v'.ownBlock = some g → g < W'.heap.size ∧ (v.ownBlock = some g ∨ W.heap.size ≤ g)
theorem KpB.trans {B : Nat} {X Y Z : World} (h : KpB B X Y) (k : KpB B Y Z) : KpB B X Z := by
  refine ⟨Nat.le_trans h.1 k.1, fun v hv hg => ?_⟩
  obtain ⟨h1, v1, h2, h3⟩ := h.2 v hv hg
  obtain ⟨k1, v2, k2, k3⟩ := k.2 v1 h2 (fun g e => (h3 g e).1)
  refine ⟨fun i c hb hn => k1 i c (h1 i c hb hn) (fun e => ?_), v2, k2, fun g e => ⟨(k3 g e).1, ?_⟩⟩
  · rcases (h3 i e).2 with a | a
    · exact hn a
    · have := hb.lt; omega
  · rcases (k3 g e).2 with a | a
    · exact (h3 g a).2
    · exact .inr (Nat.le_trans h.1 a)
theorem KpB.of_blk {B : Nat} {W W' : World} (hs : W.heap.size ≤ W'.heap.size) (h : ∀ k c e, Blk W k c e → Blk W' k c e) : KpB B W W' :=
  ⟨hs, fun v hv hg => ⟨fun k c hb _ => h k c 33 hb, v, h _ _ _ hv, fun g e => ⟨Nat.lt_of_lt_of_le (hg g e) hs, .inl e⟩⟩⟩
theorem KpB.of_fr {B : Nat} {W W' : World} (h : Fr [] W W') : KpB B W W' := KpB.of_blk h.size (fun k c e hb => h.blk hb (by simp))
theorem KpB.put {B : Nat} {W : World} {l : Nat} {o : Obj} (o' : Obj) (hl : W.heap[l]? = some o) (ho : o.isCells = false) : KpB B W (W.putObj l o') :=
  KpB.of_blk (by simp [World.putObj]) (fun k c e hb => hb.putObj hl ho o')
/-- A round's word to Cover: blocks of these types, the books from D on, other rows of cells. -/
def KpC (ts : List TypeId) (D B : Nat) (W W' : World) : Prop := Kps ts D W W' ∧ KpB B W W'
theorem KpC.trans {ts : List TypeId} {D B : Nat} {X Y Z : World} (h : KpC ts D B X Y) (k : KpC ts D B Y Z) : KpC ts D B X Z := ⟨h.1.trans k.1, h.2.trans k.2⟩
theorem KpC.put {ts : List TypeId} {D B : Nat} {W : World} {l : Nat} {o : Obj} (o' : Obj) (hl : W.heap[l]? = some o) (ho : o.isCells = false) (hD : l < D) : KpC ts D B W (W.putObj l o') := ⟨Kps.put o' hl ho hD, KpB.put o' hl ho⟩
theorem KpC.of_fr {ts : List TypeId} {D B : Nat} {W W' : World} (h : Fr [] W W') : KpC ts D B W W' := ⟨Kps.of_fr D h (by simp), KpB.of_fr h⟩
theorem kf_up {D D' : Nat} {W W' : World} (h : KeepsFrom D W W') (hd : D ≤ D') : KeepsFrom D' W W' := ⟨h.size, fun k o hk h1 h2 => h.same k o (Nat.le_trans hd hk) h1 h2⟩
theorem KpC.up {ts : List TypeId} {D D' B : Nat} {W W' : World} (h : KpC ts D B W W') (hd : D ≤ D') : KpC ts D' B W W' := ⟨⟨h.1.1, kf_up h.1.2 hd⟩, h.2⟩
/-- The list in the box B lies in none of these blocks. -/
def Away (B : Nat) (ks : List Nat) (W : World) : Prop := ∃ v, Blk W B #[v] 27 ∧ ∀ g, v.ownBlock = some g → g < W.heap.size ∧ g ∉ ks
theorem Away.kept {B : Nat} {ks : List Nat} {W W' : World} (h : Away B ks W) (k : KpB B W W') (hk : ∀ i, i ∈ ks → i < W.heap.size) : Away B ks W' := by
  obtain ⟨v, h1, h2⟩ := h
  obtain ⟨_, v', h3, h4⟩ := k.2 v h1 (fun g e => (h2 g e).1)
  refine ⟨v', h3, fun g e => ⟨(h4 g e).1, fun hm => ?_⟩⟩
  rcases (h4 g e).2 with a | a
  · exact (h2 g a).2 hm
  · have := hk g hm; omega
theorem Away.cell {B : Nat} {ks : List Nat} {W W' : World} (h : Away B ks W) (k : KpB B W W') {i : Nat} (hi : i ∈ ks) {c : Array Value} (hb : Blk W i c 33) : Blk W' i c 33 := by
  obtain ⟨v, h1, h2⟩ := h
  exact (k.2 v h1 (fun g e => (h2 g e).1)).1 i c hb (fun e => (h2 i e).2 hi)
/-- Growth by another's books keeps these. -/
theorem KeepsTy.ab {ts : List TypeId} {W A A' : World} {row : Option Nat} {n : Nat} (hg : A.grownBy A' row) (hr : ∀ r, row = some r → r ∈ ([] : List Nat) ∨ (n ≤ r ∧ ∃ o : Obj, A.heap[r]? = some o ∧ o.isCells = false)) (h : KeepsTy ts W A) : KeepsTy ts W A' :=
  fun k c e he hb => blk_ab hg hr (h k c e he hb) (by simp)
theorem KpB.ab {B : Nat} {W A A' : World} {row : Option Nat} {n : Nat} (hg : A.grownBy A' row) (hr : ∀ r, row = some r → r ∈ ([] : List Nat) ∨ (n ≤ r ∧ ∃ o : Obj, A.heap[r]? = some o ∧ o.isCells = false)) (h : KpB B W A) : KpB B W A' :=
  h.trans (KpB.of_blk hg.size (fun k c e hb => blk_ab hg hr hb (by simp)))
theorem KeepsFrom.ab {D n : Nat} {W A A' : World} {row : Option Nat} (hg : A.grownBy A' row) (hr : ∀ r, row = some r → r ∈ ([] : List Nat) ∨ (n ≤ r ∧ ∃ o : Obj, A.heap[r]? = some o ∧ o.isCells = false)) (hn : W.heap.size ≤ n) (h : KeepsFrom D W A) : KeepsFrom D W A' :=
  ⟨Nat.le_trans h.size hg.size, fun k o hk h1 h2 => by
    have hX := h.same k o hk h1 h2
    refine (hg.block k (Array.getElem?_eq_some_iff.1 hX).1 (fun e => ?_)).trans hX
    have h3 := (Array.getElem?_eq_some_iff.1 h1).1
    rcases hr k e.symm with a | ⟨a, _⟩
    · simp at a
    · omega⟩
theorem Away.ab {B : Nat} {ks : List Nat} {A A' : World} {row : Option Nat} {n : Nat} (hg : A.grownBy A' row) (hr : ∀ r, row = some r → r ∈ ([] : List Nat) ∨ (n ≤ r ∧ ∃ o : Obj, A.heap[r]? = some o ∧ o.isCells = false)) (h : Away B ks A) : Away B ks A' := by
  obtain ⟨v, h1, h2⟩ := h
  exact ⟨v, blk_ab hg hr h1 (by simp), fun g e => ⟨Nat.lt_of_lt_of_le (h2 g e).1 hg.size, (h2 g e).2⟩⟩

/-! ### the lists -/
def covRow (fx tx y : Int) : List (Int × Int) := (upTo fx tx).map fun x => (x, y)
def covRows (fx tx : Int) (ys : List Int) : List (Int × Int) := ys.flatMap (covRow fx tx)
theorem covRow_len (fx tx y : Int) : (covRow fx tx y).length = (tx + 1 - fx).toNat := by simp [covRow, upTo_len]
theorem covRows_len (fx tx : Int) : ∀ ys : List Int, (covRows fx tx ys).length = ys.length * (tx + 1 - fx).toNat
  | [] => by simp [covRows]
  | y :: ys => by
    have := covRows_len fx tx ys
    unfold covRows at *
    rw [List.flatMap_cons, List.length_append, this, covRow_len, List.length_cons, Nat.succ_mul]
    omega
theorem covRows_snoc (fx tx y : Int) (ys : List Int) : covRows fx tx (ys ++ [y]) = covRows fx tx ys ++ covRow fx tx y := by simp [covRows]
theorem covRows_prefix {fx tx : Int} {a b : List Int} (h : a <+: b) : covRows fx tx a <+: covRows fx tx b := by
  obtain ⟨c, rfl⟩ := h
  exact ⟨covRows fx tx c, by simp [covRows]⟩
/-- The cells of a box. -/
def covSeq (a b c d s : Int) : List (Int × Int) := if fits s = true ∧ boxOk a b c d = true then covRows (a / s) (c / s) (upTo (b / s) (d / s)) else []
end Go.Proofs.Ythagbhiblncpkaa
