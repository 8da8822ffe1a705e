/-
  has; in.
-/
import Derived.Test.YthagbhiblncpkaaSidC
import Derived.Test.YthagbhiblncpkaaCellO
import Derived.Test.YthagbhiblncpkaaCellG
import Derived.BigQuiet
namespace Go.Proofs.Ythagbhiblncpkaa
open Go.RowKit Go.Shelf
set_option linter.unusedVariables false
attribute [local go_sem] Oper.semAt_some

/-- Does a box cover a point? -/
def covers (a b c d x y : Int) : Bool := decide (a ≤ x ∧ x ≤ c ∧ b ≤ y ∧ y ≤ d)
set_option maxRecDepth 100000 in
theorem has_any (w : World) (a b c d x y : Int) : Calls Try.prog 26 #[bx a b c d, pt x y] w fun e w' => e = .returned (.bool (covers a b c d x y)) ∧ Fr [] w w' := by
  unfold pt
  have hB := (Blk.new w #[.int .i32 a, .int .i32 b, .int .i32 c, .int .i32 d] 39).alloc (.cells #[.int .i32 x, .int .i32 y] 23)
  have HF := Lib.hid (((Fr.refl [] w).alloc (.cells #[.int .i32 a, .int .i32 b, .int .i32 c, .int .i32 d] 39)).alloc (.cells #[.int .i32 x, .int .i32 y] 23))
  have c0 := hB.at 0 (v := .int .i32 a) rfl
  have c1 := hB.at 1 (v := .int .i32 b) rfl
  have c2 := hB.at 2 (v := .int .i32 c) rfl
  have c3 := hB.at 3 (v := .int .i32 d) rfl
  clear hB
  by_cases h1 : a ≤ x
  · by_cases h2 : x ≤ c
    · by_cases h3 : b ≤ y
      · by_cases h4 : y ≤ d
        · have H := Lib.hid (show covers a b c d x y = true from decide_eq_true ⟨h1, h2, h3, h4⟩)
          go_enter Try.func26, Try.ntmps26
          go_wp2
          go_ret
          exact ⟨ret_bool H.out.symm, HF.out⟩
        · have H := Lib.hid (show covers a b c d x y = false from decide_eq_false (by omega))
          go_enter Try.func26, Try.ntmps26
          go_wp2
          go_ret
          exact ⟨ret_bool H.out.symm, HF.out⟩
      · have H := Lib.hid (show covers a b c d x y = false from decide_eq_false (by omega))
        go_enter Try.func26, Try.ntmps26
        go_wp2
        go_ret
        exact ⟨ret_bool H.out.symm, HF.out⟩
    · have H := Lib.hid (show covers a b c d x y = false from decide_eq_false (by omega))
      go_enter Try.func26, Try.ntmps26
      go_wp2
      go_ret
      exact ⟨ret_bool H.out.symm, HF.out⟩
  · have H := Lib.hid (show covers a b c d x y = false from decide_eq_false (by omega))
    go_enter Try.func26, Try.ntmps26
    go_wp2
    go_ret
    exact ⟨ret_bool H.out.symm, HF.out⟩
theorem eql33 (a b c d : Int) (w : World) : (binOp .eql 33 (.agg #[.int .i32 a, .int .i32 b]) (.agg #[.int .i32 c, .int .i32 d])).run Try.prog w = .ok (.bool (a == c && b == d)) w := by
  by_cases h1 : a = c <;> by_cases h2 : b = d <;> simp [go_sem, h1, h2]
set_option maxRecDepth 100000 in
/-- A cell that a list has. -/
theorem isin_any (w : World) (v : Value) (L : List (Int × Int)) (x y : Int) (hL : RdC w v L) (hm : (x, y) ∈ L) : Calls Try.prog 28 #[v, pt x y] w fun e w' => e = .returned (.bool true) ∧ Fr [] w w' := by
  unfold pt
  have hL' := hL.grow ((Fr.refl [] w).alloc (.cells #[.int .i32 x, .int .i32 y] 33))
  obtain ⟨p, cap, rfl, ma, h0⟩ := hL'
  obtain ⟨n, hn⟩ : ∃ n, n = L.length := ⟨_, rfl⟩
  rw [← hn] at ma ⊢
  have HN := Lib.hid hn
  have H0 := Lib.hid h0
  have HM := Lib.hid hm
  have hB := Blk.new w #[.int .i32 x, .int .i32 y] 33
  obtain ⟨w1, hw1⟩ : ∃ W, W = w.alloc (.cells #[.int .i32 x, .int .i32 y] 33) := ⟨_, rfl⟩
  rw [← hw1] at hB H0
  have hF1 : Fr [] w w1 := by rw [hw1]; exact (Fr.refl [] w).alloc _
  have H1 := Lib.hid (And.intro hB hF1)
  clear hn h0 hm hL hB hF1
  have hq := eql33
  go_enter Try.func28, Try.ntmps28
  go_wp2
  rw [← hw1]
  clear hw1
  go_loopw [5] (fun i wr => ∃ k : Nat, i = .int .i64 k ∧ k ≤ n ∧ (x, y) ∉ L.take k ∧ Fr [] w1 wr) (fun i _ => n - (intOf i).toNat)
  case atStart => exact ⟨0, rfl, Nat.zero_le _, by simp, Fr.refl _ _⟩
  case round =>
    obtain ⟨k, rfl, hk, ht, hf⟩ := hrel
    obtain ⟨wi, rfl⟩ : ∃ wi : World, wi = wr := ⟨_, rfl⟩
    have HT := Lib.hid ht
    have HF := Lib.hid hf
    have hb := hf.blk H1.out.1 (by simp)
    have b1 := hb.at 0 (v := .int .i32 x) rfl
    have b2 := hb.at 1 (v := .int .i32 y) rfl
    clear ht hf hb
    by_cases hlt : k < n
    · have hka : k < L.length := by rw [← HN.out]; exact hlt
      obtain ⟨g, o, rfl, c0⟩ := H0.out.resolve_left (by omega)
      have a1 := (HF.out.cell (World.block_lt_of_cell? w1 _ (c0 k hka).1) (by simp)).trans (c0 k hka).1
      have a2 := (HF.out.cell (World.block_lt_of_cell? w1 _ (c0 k hka).2) (by simp)).trans (c0 k hka).2
      clear c0
      have hs : L.take (k + 1) = L.take k ++ [L[k]] := List.take_succ_eq_append_getElem hka
      generalize L[k] = z at a1 a2 hs
      obtain ⟨x1, x2⟩ := z
      have HS := Lib.hid hs
      have g1 : (0 : Int) ≤ (k : Int) := by omega
      have g2 : (k : Int) < (n : Int) := by omega
      clear hs hka
      dsimp only at a1 a2
      by_cases he : x1 = x ∧ x2 = y
      · have HE := Lib.hid he
        have heb : (x1 == x && x2 == y) = true := by simp [he.1, he.2]
        clear he
        go_wp2
        go_quiet (fail)
        go_wp2
        go_ret
        exact ⟨rfl, (H1.out.2.trans HF.out (by simp)).drewN _⟩
      · have HE := Lib.hid he
        have heb : (x1 == x && x2 == y) = false := by
          by_cases h1 : x1 = x
          · have : x2 ≠ y := fun h => he ⟨h1, h⟩
            simp [h1, this]
          · simp [h1]
        clear he
        go_wp2
        go_quiet (fail)
        go_wp2
        go_roundw
        case rel =>
          refine ⟨k + 1, by go_num, by omega, ?_, HF.out.drewN _⟩
          rw [HS.out, List.mem_append]
          rintro (h | h)
          · exact HT.out h
          · rw [List.mem_singleton] at h
            cases h
            exact HE.out ⟨rfl, rfl⟩
        case measure => simp [intOf]; omega
    · obtain rfl : k = n := by omega
      exact absurd HM.out (by have := HT.out; rwa [HN.out, List.take_of_length_le (Nat.le_refl _)] at this)
end Go.Proofs.Ythagbhiblncpkaa
