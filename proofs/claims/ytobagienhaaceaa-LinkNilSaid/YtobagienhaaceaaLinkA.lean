/-
  A line of numbers: what it holds; New, Len, Most, full, Put, named, by contracts.
-/
import Derived.Test.YtobagienhaaceaaRange
import Derived.Test.YtobagienhaaceaaRows
import Derived.StillTailTactics
import Derived.Deep.RegionHeld3
import Derived.Deep.QuietTactic
import Derived.BigQuiet
namespace Go.Proofs.Ytobagienhaaceaa
open Go.RowKit
set_option linter.unusedVariables false

theorem region_tail {P : Program} {id : Nat} {Q : Exit → Act → World → Prop} {a : Act} {w : World} {l : List Oper} (n : Nat) (hm : P.follows .mixedOrders = true) (hB : Region.lexTailB .any l.toArray n = true)
    (h : wpStill P l.toArray w.drew (fun a' => wpList P l.toArray Q (l.drop n) a' w.drew) (l.take n) a) : (Code.region id l.toArray true).wp P Q a w :=
  wp_region_still_tail n hm hB h
theorem info3 : (Try.prog.info? 3).map (fun i => (i.zero, i.size, i.bytes)) = some (some (.int .i64 0), 1, 8) := by kernel_rfl
theorem ret_pair {a b : Int} {c d : Bool} (h : a = b) (h2 : c = d) : Ending.returned (.tuple #[.int .i64 a, .bool c]) = .returned (.tuple #[.int .i64 b, .bool d]) := by rw [h, h2]

/-- The line at b: its row v holds L; room for most; some books. -/
def LineAt (W : World) (b : Nat) (v : Value) (L : List Int) (most : Nat) : Prop :=
  (∃ p c d e : Int, Blk W b #[v, .int .i64 most, .int .i64 p, .int .i64 c, .int .i64 d, .int .i64 e] 43) ∧ W.ownsRow 0 3 1 v L.length (ints L)
/-- The row lies where it lay, or in new memory. -/
def Moved (w : World) (v v' : Value) : Prop := v'.ownBlock = v.ownBlock ∨ ∃ g, v'.ownBlock = some g ∧ w.heap.size ≤ g
theorem Moved.refl (w : World) (v : Value) : Moved w v v := .inl rfl
theorem LineAt.form {W : World} {b : Nat} {v : Value} {L : List Int} {most : Nat} (h : LineAt W b v L most) : ∃ p c, v = .slice p L.length c ∧ L.length ≤ c ∧ c ≤ maxLen ∧ (p = none → L.length = 0) := by
  rcases h.2.2 with ⟨h1, h2⟩ | ⟨g, cap, cur, h1, _, _, h4, h5, _⟩
  · exact ⟨none, 0, by rw [h1, h2], by omega, by unfold maxLen; omega, fun _ => h2⟩
  · exact ⟨_, cap, h1, h4, h5, fun h => by cases h⟩
theorem LineAt.fr {S : List Nat} {W W' : World} {b : Nat} {v : Value} {L : List Int} {most : Nat} (h : LineAt W b v L most) (f : Fr S W W') (hb : b ∉ S) (hv : ∀ g, v.ownBlock = some g → g ∉ S) : LineAt W' b v L most := by
  obtain ⟨⟨p, c, d, e, h1⟩, h2⟩ := h
  exact ⟨⟨p, c, d, e, f.blk h1 hb⟩, own_fr h2 f hv⟩
theorem LineAt.lt {W : World} {b : Nat} {v : Value} {L : List Int} {most : Nat} (h : LineAt W b v L most) : b < W.heap.size := by
  obtain ⟨⟨p, c, d, e, h1⟩, h2⟩ := h
  exact h1.lt
theorem LineAt.drewN {W : World} {b : Nat} {v : Value} {L : List Int} {most : Nat} (h : LineAt W b v L most) (n : Nat) : LineAt (W.drewN n) b v L most := h

/-- What New answers. -/
theorem new_ok (w : World) (most : Nat) (h1 : 1 ≤ most) (h2 : most ≤ 64) : Calls Try.prog 5 #[.int .i64 most] w fun e w' =>
    e = .returned (.tuple #[.pointer (some ⟨w.heap.size, 0, none⟩), .int .i64 0]) ∧ LineAt w' w.heap.size (.slice none 0 0) [] most ∧ Fr [] w w' := by
  go_enter Try.func5, Try.ntmps5
  go_wp2
  go_ret2
  exact ⟨rfl, ⟨⟨0, 0, 0, 0, Blk.new _ _ _⟩, World.ownsRow_nil _ _ _ _⟩, (Fr.refl _ _).alloc _⟩
theorem new_no (w : World) (most : Int) (h : most < 1 ∨ 64 < most) : Calls Try.prog 5 #[.int .i64 most] w fun e w' => e = .returned (.tuple #[.pointer none, .int .i64 2]) ∧ w = w' := by
  rcases h with h | h
  · go_enter Try.func5, Try.ntmps5
    go_wp2
    go_ret2
    exact ⟨rfl, rfl⟩
  · have : ¬ most < 1 := by omega
    go_enter Try.func5, Try.ntmps5
    go_wp2
    go_ret2
    exact ⟨rfl, rfl⟩
theorem len_any (w : World) (b : Nat) (v : Value) (L : List Int) (most : Nat) (h : LineAt w b v L most) : Calls Try.prog 11 #[.pointer (some ⟨b, 0, none⟩)] w fun e w' => e = .returned (.int .i64 L.length) ∧ w = w' := by
  obtain ⟨p', c', rfl, hc, hm, hn⟩ := h.form
  obtain ⟨⟨p, c, d, e, h1⟩, h2⟩ := h
  have c0 := h1.at 0 rfl
  clear h1 h2 hn
  go_enter Try.func11, Try.ntmps11
  go_wp2
  go_ret
  exact ⟨rfl, rfl⟩
theorem most_any (w : World) (b : Nat) (v : Value) (L : List Int) (most : Nat) (h : LineAt w b v L most) : Calls Try.prog 12 #[.pointer (some ⟨b, 0, none⟩)] w fun e w' => e = .returned (.int .i64 most) ∧ w = w' := by
  obtain ⟨⟨p, c, d, e, h1⟩, h2⟩ := h
  have c1 := h1.at 1 (v := .int .i64 most) rfl
  clear h1 h2
  go_enter Try.func12, Try.ntmps12
  go_wp2
  go_ret
  exact ⟨rfl, rfl⟩
theorem full_any (w : World) (b : Nat) (v : Value) (L : List Int) (most : Nat) (h : LineAt w b v L most) : Calls Try.prog 13 #[.pointer (some ⟨b, 0, none⟩)] w fun e w' => e = .returned (.bool (decide (most ≤ L.length))) ∧ Fr [] w w' ∧ LineAt w' b v L most := by
  have HL := Lib.hid h
  obtain ⟨p', c', rfl, hc, hm, hn⟩ := h.form
  obtain ⟨⟨p, c, d, e, h1⟩, h2⟩ := h
  have c0 := h1.at 0 rfl
  have c1 := h1.at 1 (v := .int .i64 most) rfl
  clear h1 h2 hn
  by_cases hl : most ≤ L.length
  · have hd : decide ((most : Int) ≤ (L.length : Int)) = true := by simp; omega
    have HD := Lib.hid (show decide (most ≤ L.length) = true by simp; omega)
    go_enter Try.func13, Try.ntmps13
    go_wp2
    go_quiet (fail)
    go_wp2
    go_ret
    exact ⟨ret_bool HD.out.symm, (Fr.refl _ _).drewN _, HL.out.drewN _⟩
  · have hd : decide ((most : Int) ≤ (L.length : Int)) = false := by simp; omega
    have HD := Lib.hid (show decide (most ≤ L.length) = false by simp; omega)
    go_enter Try.func13, Try.ntmps13
    go_wp2
    go_quiet (fail)
    go_wp2
    go_ret
    exact ⟨ret_bool HD.out.symm, (Fr.refl _ _).drewN _, HL.out.drewN _⟩

end Go.Proofs.Ytobagienhaaceaa
