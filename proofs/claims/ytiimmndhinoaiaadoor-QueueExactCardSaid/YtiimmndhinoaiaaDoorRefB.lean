/-
  The document's line: New, From, Names, Add, Take, Lose, Twice.
-/
import Derived.Test.YtiimmndhinoaiaaDoorRefA
import Derived.Test.YtiimmndhinoaiaaDoorLinI
namespace Go.Proofs.YtiimmndhinoaiaaDoor
open Go.RowKit Go.Shelf
set_option linter.unusedVariables false
attribute [local go_sem] Oper.semAt_some
theorem own_form {w : World} {base e size k : Nat} {v : Value} {xs : List Value} (h : w.ownsRow base e size v k xs) : ∃ p c, v = .slice p k c := by
  rcases h.2 with ⟨rfl, rfl⟩ | ⟨g, cap, cur, rfl, _⟩
  · exact ⟨_, _, rfl⟩
  · exact ⟨_, _, rfl⟩
/-- The document's line at r. -/
def RAt (W : World) (r : Nat) (v : Value) (L : List Int) (most : Nat) (B : Bk) : Prop :=
  Blk W r #[v, .int .i64 most, .int .i64 B.p, .int .i64 B.c, .int .i64 B.d, .int .i64 B.e] 44 ∧ W.ownsRow 0 3 1 v L.length (ints L)
section
variable {W W' : World} {r : Nat} {v : Value} {L : List Int} {most : Nat} {B : Bk}
theorem RAt.form (h : RAt W r v L most B) : ∃ p c, v = .slice p L.length c ∧ L.length ≤ c ∧ c ≤ maxLen ∧ (p = none → L.length = 0) := by
  rcases h.2.2 with ⟨h1, h2⟩ | ⟨g, cap, cur, h1, _, _, h4, h5, _⟩
  · exact ⟨none, 0, by rw [h1, h2], by omega, by unfold maxLen; omega, fun _ => h2⟩
  · exact ⟨_, cap, h1, h4, h5, fun h => by cases h⟩
theorem RAt.fr {S : List Nat} (h : RAt W r v L most B) (f : Fr S W W') (hb : r ∉ S) (hv : ∀ g, v.ownBlock = some g → g ∉ S) : RAt W' r v L most B :=
  ⟨f.blk h.1 hb, own_fr h.2 f hv⟩
theorem RAt.drewN (h : RAt W r v L most B) (n : Nat) : RAt (W.drewN n) r v L most B := h
theorem RAt.lt (h : RAt W r v L most B) : r < W.heap.size := h.1.lt
theorem RAt.notin (h : RAt W r v L most B) : r ∉ v.ownBlock.toList := own_notin h.2 h.1 (by decide)
theorem RAt.book (h : RAt W r v L most B) (i : Nat) (hi : 2 ≤ i ∧ i ≤ 5) (x : Int) : RAt (W.setCell ⟨r, i, none⟩ (.int .i64 x)) r v L most (B.set i x) := by
  have hn := h.notin
  refine ⟨?_, own_fr h.2 ((Fr.refl [r] W).setCell _ _ (.inl (by simp))) (fun g hg hm => hn (by simp at hm; subst hm; simp [hg]))⟩
  have hs := h.1.set i (.int .i64 x)
  rcases (show i = 2 ∨ i = 3 ∨ i = 4 ∨ i = 5 by omega) with rfl | rfl | rfl | rfl <;> exact hs
/-- Another list is laid in. -/
theorem RAt.lay {v' : Value} {L' : List Int} (h : RAt W r v L most B) (hv : W.ownsRow 0 3 1 v' L'.length (ints L')) : RAt (W.setCell ⟨r, 0, none⟩ v') r v' L' most B := by
  have hn : r ∉ v'.ownBlock.toList := own_notin hv h.1 (by decide)
  exact ⟨h.1.set 0 v', own_fr hv ((Fr.refl [r] W).setCell _ _ (.inl (by simp))) (fun g hg hm => hn (by simp at hm; subst hm; simp [hg]))⟩
theorem RAt.books (h : RAt W r v L most B) :
    W.cell? ⟨r, 0, none⟩ = some v ∧ W.cell? ⟨r, 1, none⟩ = some (.int .i64 most) ∧ W.cell? ⟨r, 2, none⟩ = some (.int .i64 B.p) ∧ W.cell? ⟨r, 3, none⟩ = some (.int .i64 B.c) ∧ W.cell? ⟨r, 4, none⟩ = some (.int .i64 B.d) ∧ W.cell? ⟨r, 5, none⟩ = some (.int .i64 B.e) ∧
      (∀ i, W.frozen? ⟨r, i, none⟩ = false) :=
  ⟨h.1.at 0 rfl, h.1.at 1 rfl, h.1.at 2 rfl, h.1.at 3 rfl, h.1.at 4 rfl, h.1.at 5 rfl, fun i => h.1.free i⟩
theorem RAt.rd (h : RAt W r v L most B) (hl : L.length ≤ 64) : RdF W v L.length 1 (ints L) := RdF.of_own (by decide) h.2 (by unfold maxLen; omega)
end
/-- What a change leaves. -/
def RPost (w : World) (r : Nat) (v : Value) (L' : List Int) (most : Nat) (B' : Bk) (res : Value) (e : Ending) (w' : World) : Prop :=
  e = .returned res ∧ ∃ v', RAt w' r v' L' most B' ∧ (v' = v ∨ ∀ g, v'.ownBlock = some g → w.heap.size ≤ g) ∧ Fr [r] w w'
theorem rnew_ok (w : World) (most : Nat) (h1 : 1 ≤ most) (h2 : most ≤ 64) : Calls Tryd.prog 10 #[.int .i64 most] w fun e w' =>
    e = .returned (.pointer (some ⟨w.heap.size, 0, none⟩)) ∧ RAt w' w.heap.size (.slice none 0 0) [] most ⟨0, 0, 0, 0⟩ ∧ Fr [] w w' := by
  go_enter Tryd.func10, Tryd.ntmps10
  go_wp2
  go_ret
  exact ⟨rfl, ⟨Blk.new _ _ _, World.ownsRow_nil _ _ _ _⟩, (Fr.refl _ _).alloc _⟩
theorem rnew_no (w : World) (most : Int) (h : most < 1 ∨ 64 < most) : Calls Tryd.prog 10 #[.int .i64 most] w fun e w' => e = .returned (.pointer none) ∧ w = w' := by
  rcases h with h | h
  · go_enter Tryd.func10, Tryd.ntmps10
    go_wp2
    go_ret
    exact ⟨rfl, rfl⟩
  · have : ¬ most < 1 := by omega
    go_enter Tryd.func10, Tryd.ntmps10
    go_wp2
    go_ret
    exact ⟨rfl, rfl⟩
theorem rnames_any (w : World) (r : Nat) (v : Value) (L : List Int) (most : Nat) (B : Bk) (i : Int) (h : RAt w r v L most B) (hl : 0 < L.length) (h64 : L.length ≤ 64) :
    Calls Tryd.prog 85 #[.pointer (some ⟨r, 0, none⟩), .int .i64 i] w fun e w' => e = .returned (.int .i64 (LnI.place i L.length)) ∧ w = w' := by
  obtain ⟨p, cc, rfl, hc, hm, _⟩ := h.form
  unfold maxLen at hm
  obtain ⟨c0, -⟩ := h.books
  have hmz : ((L.length : Int) == 0) = false := by rw [beq_eq_false_iff_ne]; omega
  have hml : (L.length : Int) ≤ 64 := by omega
  have t1 : -(L.length : Int) < i.tmod L.length := by
    have := Int.tmod_lt_of_pos (-i) (show 0 < (L.length : Int) by omega)
    rw [Int.neg_tmod] at this; omega
  have t2 : i.tmod L.length < (L.length : Int) := Int.tmod_lt_of_pos i (by omega)
  have HP := Lib.hid (LnI.place_eq i hl)
  clear h hc hm
  generalize hn : L.length = n at *
  go_enter Tryd.func85, Tryd.ntmps85
  go_wp2
  go_ret
  rw [HP.out]
  exact ⟨rfl, rfl⟩
theorem rnames_no (w : World) (r : Nat) (v : Value) (most : Nat) (B : Bk) (i : Int) (h : RAt w r v [] most B) :
    Calls Tryd.prog 85 #[.pointer (some ⟨r, 0, none⟩), .int .i64 i] w fun e w' => e = .returned (.int .i64 (-1)) ∧ w = w' := by
  obtain ⟨p, cc, rfl, hc, hm, _⟩ := h.form
  obtain ⟨c0, -⟩ := h.books
  clear h hc hm
  go_enter Tryd.func85, Tryd.ntmps85
  go_wp2
  go_ret
  exact ⟨rfl, rfl⟩
end Go.Proofs.YtiimmndhinoaiaaDoor
