/-
  Boxes: isBox, Right, Count and Square of package cell and of its reference, by contracts.
-/
import Derived.Test.YthagbhiblncpkaaCellB
namespace Go.Proofs.Ythagbhiblncpkaa
open Go.RowKit
set_option linter.unusedVariables false

abbrev bx (a b c d : Int) : Value := .agg #[.int .i32 a, .int .i32 b, .int .i32 c, .int .i32 d]
/-- May a box be? -/
def boxOk (a b c d : Int) : Bool := inB a b && (inB c d && (decide (a ≤ c) && decide (b ≤ d)))
theorem boxOk_iff {a b c d : Int} : boxOk a b c d = true ↔ inB a b = true ∧ inB c d = true ∧ a ≤ c ∧ b ≤ d := by simp [boxOk]

theorem isBox_any (w : World) (a b c d : Int) : Calls Try.prog 39 #[bx a b c d] w fun e w' => e = .returned (.bool (boxOk a b c d)) ∧ Fr [] w w' := by
  unfold bx
  have H := Lib.hid (show boxOk a b c d = (inB a b && (inB c d && (decide (a ≤ c) && decide (b ≤ d)))) from rfl)
  have hB := Blk.new w #[.int .i32 a, .int .i32 b, .int .i32 c, .int .i32 d] 39
  have F0 := (Fr.refl [] w).alloc (.cells #[.int .i32 a, .int .i32 b, .int .i32 c, .int .i32 d] 39)
  have HH := Lib.hid (And.intro hB F0)
  have C1 := Lib.hid (fun w => show Calls Try.prog 32 #[.agg #[.int .i32 a, .int .i32 b]] w fun e w' => e = .returned (.bool (inB a b)) ∧ Fr [] w w' from in_any w a b)
  have C2 := Lib.hid (fun w => show Calls Try.prog 32 #[.agg #[.int .i32 c, .int .i32 d]] w fun e w' => e = .returned (.bool (inB c d)) ∧ Fr [] w w' from in_any w c d)
  clear hB F0
  generalize inB a b = i1 at *
  generalize inB c d = i2 at *
  go_enter Try.func39, Try.ntmps39
  cases i1 with
  | false =>
    go_wp2_with fail
    (with_reducible refine (C1.out _).mono ?_)
    rintro e w1 ⟨rfl, f1⟩
    have F1 := Lib.hid (HH.out.2.trans f1 (by simp))
    clear f1
    go_wp2_with fail
    go_ret
    exact ⟨ret_bool (by rw [H.out]; simp), F1.out⟩
  | true =>
    go_wp2_with fail
    (with_reducible refine (C1.out _).mono ?_)
    rintro e w1 ⟨rfl, f1⟩
    have F1 := Lib.hid (HH.out.2.trans f1 (by simp))
    have k1 := f1.blk HH.out.1 (by simp)
    have c0 := k1.at 0 (v := .int .i32 a) rfl
    have c1 := k1.at 1 (v := .int .i32 b) rfl
    have c2 := k1.at 2 (v := .int .i32 c) rfl
    have c3 := k1.at 3 (v := .int .i32 d) rfl
    have K1 := Lib.hid k1
    clear f1 k1
    cases i2 with
    | false =>
      go_wp2_with fail
      (with_reducible refine (C2.out _).mono ?_)
      rintro e w2 ⟨rfl, f2⟩
      have F2 := Lib.hid (F1.out.trans f2 (by simp))
      clear f2
      go_wp2_with fail
      go_ret
      exact ⟨ret_bool (by rw [H.out]; simp), F2.out⟩
    | true =>
      go_wp2_with fail
      (with_reducible refine (C2.out _).mono ?_)
      rintro e w2 ⟨rfl, f2⟩
      have F2 := Lib.hid (F1.out.trans f2 (by simp))
      have k1 := f2.blk K1.out (by simp)
      have c0 := k1.at 0 (v := .int .i32 a) rfl
      have c1 := k1.at 1 (v := .int .i32 b) rfl
      have c2 := k1.at 2 (v := .int .i32 c) rfl
      have c3 := k1.at 3 (v := .int .i32 d) rfl
      clear f2 k1
      by_cases h1 : a ≤ c
      · by_cases h2 : b ≤ d
        · go_wp2_with fail
          go_ret
          exact ⟨ret_bool (by rw [H.out, decide_eq_true (show a ≤ c by omega), decide_eq_true (show b ≤ d by omega)]; rfl), F2.out⟩
        · go_wp2_with fail
          go_ret
          exact ⟨ret_bool (by rw [H.out, decide_eq_true (show a ≤ c by omega), decide_eq_false (show ¬ b ≤ d by omega)]; rfl), F2.out⟩
      · go_wp2_with fail
        go_ret
        exact ⟨ret_bool (by rw [H.out, decide_eq_false (show ¬ a ≤ c by omega)]; rfl), F2.out⟩

theorem right_any (w : World) (a b c d : Int) : Calls Try.prog 40 #[bx a b c d] w fun e w' => e = .returned (.bool (boxOk a b c d)) ∧ Fr [] w w' := by
  unfold bx
  have H := Lib.hid (show boxOk a b c d = (inB a b && (inB c d && (decide (a ≤ c) && decide (b ≤ d)))) from rfl)
  have hB := Blk.new w #[.int .i32 a, .int .i32 b, .int .i32 c, .int .i32 d] 39
  have F0 := (Fr.refl [] w).alloc (.cells #[.int .i32 a, .int .i32 b, .int .i32 c, .int .i32 d] 39)
  have HH := Lib.hid (And.intro hB F0)
  have C1 := Lib.hid (fun w => show Calls Try.prog 25 #[.agg #[.int .i32 a, .int .i32 b]] w fun e w' => e = .returned (.bool (inB a b)) ∧ Fr [] w w' from refIn_any w a b)
  have C2 := Lib.hid (fun w => show Calls Try.prog 25 #[.agg #[.int .i32 c, .int .i32 d]] w fun e w' => e = .returned (.bool (inB c d)) ∧ Fr [] w w' from refIn_any w c d)
  clear hB F0
  generalize inB a b = i1 at *
  generalize inB c d = i2 at *
  go_enter Try.func40, Try.ntmps40
  cases i1 with
  | false =>
    go_wp2_with fail
    (with_reducible refine (C1.out _).mono ?_)
    rintro e w1 ⟨rfl, f1⟩
    have F1 := Lib.hid (HH.out.2.trans f1 (by simp))
    clear f1
    go_wp2_with fail
    go_ret
    exact ⟨ret_bool (by rw [H.out]; simp), F1.out⟩
  | true =>
    go_wp2_with fail
    (with_reducible refine (C1.out _).mono ?_)
    rintro e w1 ⟨rfl, f1⟩
    have F1 := Lib.hid (HH.out.2.trans f1 (by simp))
    have k1 := f1.blk HH.out.1 (by simp)
    have c0 := k1.at 0 (v := .int .i32 a) rfl
    have c1 := k1.at 1 (v := .int .i32 b) rfl
    have c2 := k1.at 2 (v := .int .i32 c) rfl
    have c3 := k1.at 3 (v := .int .i32 d) rfl
    have K1 := Lib.hid k1
    clear f1 k1
    cases i2 with
    | false =>
      go_wp2_with fail
      (with_reducible refine (C2.out _).mono ?_)
      rintro e w2 ⟨rfl, f2⟩
      have F2 := Lib.hid (F1.out.trans f2 (by simp))
      clear f2
      go_wp2_with fail
      go_ret
      exact ⟨ret_bool (by rw [H.out]; simp), F2.out⟩
    | true =>
      go_wp2_with fail
      (with_reducible refine (C2.out _).mono ?_)
      rintro e w2 ⟨rfl, f2⟩
      have F2 := Lib.hid (F1.out.trans f2 (by simp))
      have k1 := f2.blk K1.out (by simp)
      have c0 := k1.at 0 (v := .int .i32 a) rfl
      have c1 := k1.at 1 (v := .int .i32 b) rfl
      have c2 := k1.at 2 (v := .int .i32 c) rfl
      have c3 := k1.at 3 (v := .int .i32 d) rfl
      clear f2 k1
      by_cases h1 : a ≤ c
      · by_cases h2 : b ≤ d
        · go_wp2_with fail
          go_ret
          exact ⟨ret_bool (by rw [H.out, decide_eq_true (show a ≤ c by omega), decide_eq_true (show b ≤ d by omega)]; rfl), F2.out⟩
        · go_wp2_with fail
          go_ret
          exact ⟨ret_bool (by rw [H.out, decide_eq_true (show a ≤ c by omega), decide_eq_false (show ¬ b ≤ d by omega)]; rfl), F2.out⟩
      · go_wp2_with fail
        go_ret
        exact ⟨ret_bool (by rw [H.out, decide_eq_false (show ¬ a ≤ c by omega)]; rfl), F2.out⟩

section
variable {X : World} {b g : Nat} {u v x y : Value} {c : Array Value} {t : TypeId}
theorem Blk.pair (h : Blk X b #[u, v] t) : Blk ((X.setCell ⟨b, 0, none⟩ x).setCell ⟨b, 1, none⟩ y) b #[x, y] t := (h.set 0 x).set 1 y
theorem Blk.other2 (h : Blk X b c t) (hn : b ≠ g) : Blk ((X.setCell ⟨g, 0, none⟩ x).setCell ⟨g, 1, none⟩ y) b c t := (h.other ⟨g, 0, none⟩ _ hn).other ⟨g, 1, none⟩ _ hn
end

end Go.Proofs.Ythagbhiblncpkaa
