/-
  The rows of a line within a column: package cell's and the document's, by contracts.
-/
import Derived.Test.YthagbhiblncpkaaCellB
namespace Go.Proofs.Ythagbhiblncpkaa
open Go.RowKit
set_option linter.unusedVariables false

theorem ret_two {a b c d : Int} {k k' : IntKind} (h : a = c) (h' : b = d) : Ending.returned (.tuple #[.int k a, .int k' b]) = .returned (.tuple #[.int k c, .int k' d]) := by rw [h, h']

/-- A line as a value. -/
abbrev ln (lx ly dx dy s : Int) : Value := .agg #[.int .i64 lx, .int .i64 ly, .int .i64 dx, .int .i64 dy, .int .i64 s]

theorem wr {x : Int} (h : -9223372036854775808 ≤ x ∧ x ≤ 9223372036854775807) : IntKind.i64.wrap x = x := by rw [IntKind.wrap_i64]; omega

theorem row_any (w : World) (lx ly dx dy s x : Int) (b1 : -4611686018427387904 ≤ ly * dx ∧ ly * dx ≤ 4611686018427387904) (b2 : -4611686018427387904 ≤ dy * (x - lx) ∧ dy * (x - lx) ≤ 4611686018427387904)
    (b3 : -4611686018427387904 ≤ x - lx ∧ x - lx ≤ 4611686018427387904) (b4 : -4611686018427387904 ≤ ly * dx + dy * (x - lx) ∧ ly * dx + dy * (x - lx) ≤ 4611686018427387904) (b5 : 1 ≤ dx * s ∧ dx * s ≤ 4611686018427387904) :
    Calls Try.prog 44 #[ln lx ly dx dy s, .int .i64 x] w fun e w' => e = .returned (.tuple #[.int .i64 ((ly * dx + dy * (x - lx)) / (dx * s)), .bool ((ly * dx + dy * (x - lx)) / (dx * s) * (dx * s) == ly * dx + dy * (x - lx))]) ∧ Fr [] w w' := by
  have w1 := wr (x := ly * dx) (by omega)
  have w2 := wr (x := dy * (x - lx)) (by omega)
  have w3 := wr (x := x - lx) (by omega)
  have w4 := wr (x := ly * dx + dy * (x - lx)) (by omega)
  have w5 := wr (x := dx * s) (by omega)
  have w6 : IntKind.i64.wrap ((ly * dx + dy * (x - lx)) / (dx * s) * (dx * s)) = (ly * dx + dy * (x - lx)) / (dx * s) * (dx * s) := by
    refine wr ?_
    have e1 := Int.mul_ediv_add_emod (ly * dx + dy * (x - lx)) (dx * s)
    have e2 := Int.emod_nonneg (ly * dx + dy * (x - lx)) (show dx * s ≠ 0 by omega)
    have e3 := Int.emod_lt_of_pos (ly * dx + dy * (x - lx)) (show 0 < dx * s by omega)
    rw [Int.mul_comm] at e1
    omega
  have HF := Lib.hid (floor_any · (ly * dx + dy * (x - lx)) (dx * s) b5.1 b4.1 b4.2 b5.2)
  clear b1 b2 b3 b4 b5
  unfold ln
  go_enter Try.func44, Try.ntmps44
  go_wp2_with fail
  go_quiet (fail)
  go_wp2_with fail
  (with_reducible refine (HF.out _).mono ?_)
  rintro e w1 ⟨rfl, rfl⟩
  go_wp2
  go_ret2
  exact ⟨rfl, ((Fr.refl _ _).alloc _).drewN _⟩

/-- On the way from end to end the products stay small. -/
theorem num_bd {ly dx dy t : Int} (h1 : -1073741823 ≤ ly ∧ ly ≤ 1073741823) (h2 : -1073741823 ≤ ly + dy ∧ ly + dy ≤ 1073741823) (h3 : dx ≤ 2147483646) (h4 : 0 ≤ t ∧ t ≤ dx) :
    (-4611686018427387904 ≤ ly * dx ∧ ly * dx ≤ 4611686018427387904) ∧ (-4611686018427387904 ≤ dy * t ∧ dy * t ≤ 4611686018427387904) ∧ (-4611686018427387904 ≤ ly * dx + dy * t ∧ ly * dx + dy * t ≤ 4611686018427387904) := by
  have p1 := Int.mul_le_mul_of_nonneg_right h1.1 (show 0 ≤ dx by omega)
  have p2 := Int.mul_le_mul_of_nonneg_right h1.2 (show 0 ≤ dx by omega)
  have p3 := Int.mul_le_mul_of_nonneg_right (show -2147483646 ≤ dy by omega) h4.1
  have p4 := Int.mul_le_mul_of_nonneg_right (show dy ≤ 2147483646 by omega) h4.1
  have q1 := Int.mul_le_mul_of_nonneg_right h1.1 (show 0 ≤ dx - t by omega)
  have q2 := Int.mul_le_mul_of_nonneg_right h1.2 (show 0 ≤ dx - t by omega)
  have q3 := Int.mul_le_mul_of_nonneg_right h2.1 h4.1
  have q4 := Int.mul_le_mul_of_nonneg_right h2.2 h4.1
  have e : ly * dx + dy * t = ly * (dx - t) + (ly + dy) * t := by rw [Int.mul_sub, Int.add_mul]; omega
  refine ⟨⟨by omega, by omega⟩, ⟨by omega, by omega⟩, ?_⟩
  rw [e]
  omega

theorem den_bd {dx s : Int} (h1 : 1 ≤ dx) (h2 : dx ≤ 2147483646) (h3 : 1 ≤ s) (h4 : s ≤ 2147483648) : 1 ≤ dx * s ∧ dx * s ≤ 4611686018427387904 := by
  have p1 := Int.mul_le_mul_of_nonneg_right h1 (show 0 ≤ s by omega)
  have p2 := Int.mul_le_mul_of_nonneg_right h2 (show 0 ≤ s by omega)
  omega

theorem row_lat (w : World) (lx ly dx dy s x : Int) (h0 : -1073741823 ≤ lx ∧ lx ≤ 1073741823) (h1 : -1073741823 ≤ ly ∧ ly ≤ 1073741823) (h2 : -1073741823 ≤ ly + dy ∧ ly + dy ≤ 1073741823) (h3 : 1 ≤ dx ∧ dx ≤ 2147483646) (h4 : lx ≤ x ∧ x ≤ lx + dx) (h5 : 1 ≤ s ∧ s ≤ 2147483648) :
    Calls Try.prog 44 #[ln lx ly dx dy s, .int .i64 x] w fun e w' => e = .returned (.tuple #[.int .i64 ((ly * dx + dy * (x - lx)) / (dx * s)), .bool ((ly * dx + dy * (x - lx)) / (dx * s) * (dx * s) == ly * dx + dy * (x - lx))]) ∧ Fr [] w w' := by
  obtain ⟨c1, c2, c3⟩ := num_bd (t := x - lx) h1 h2 h3.2 (by omega)
  exact row_any w lx ly dx dy s x c1 c2 (by omega) c3 (den_bd h3.1 h3.2 h5.1 h5.2)

theorem rows_nil (w : World) (lx ly dx dy s c : Int) (h1 : -1073741823 ≤ ly ∧ ly ≤ 1073741823) (h2 : -1073741823 ≤ ly + dy ∧ ly + dy ≤ 1073741823) (h3 : dx = 0) (h5 : 1 ≤ s ∧ s ≤ 2147483648) :
    Calls Try.prog 34 #[ln lx ly dx dy s, .int .i64 c] w fun e w' => e = .returned (.tuple #[.int .i64 (min (ly / s) ((ly + dy) / s)), .int .i64 (max (ly / s) ((ly + dy) / s))]) ∧ Fr [] w w' := by
  subst h3
  have w1 := wr (x := ly + dy) (by omega)
  have HX := floored ly s h5.1 h5.2 (by unfold I32; omega)
  have HY := floored (ly + dy) s h5.1 h5.2 (by unfold I32; omega)
  unfold ln
  go_enter Try.func34, Try.ntmps34
  go_wp2_with fail
  go_quiet ((first
    | (go_at_call_of 43 (Value.int IntKind.i64 ly); with_reducible exact Calls.quiet_of_same (HX.on _))
    | (go_at_call_of 43 (Value.int IntKind.i64 (ly + dy)); with_reducible exact Calls.quiet_of_same (HY.on _))))
  go_wp2_with fail
  all_goals
    go_ret2
    exact ⟨ret_two (by omega) (by omega), ((Fr.refl _ _).alloc _).drewN _⟩

/-- What 'rows' answers of a line that goes to the right. -/
def firstR (lx ly dx dy s c : Int) : Int := if c * s > lx then (ly * dx + dy * (c * s - lx)) / (dx * s) else ly / s
def endNum (lx ly dx dy s c : Int) : Int := ly * dx + dy * ((c + 1) * s - lx)
def lastR (lx ly dx dy s c : Int) : Int :=
  if (c + 1) * s ≤ lx + dx then
    if endNum lx ly dx dy s c / (dx * s) * (dx * s) = endNum lx ly dx dy s c ∧ 0 < dy then endNum lx ly dx dy s c / (dx * s) - 1 else endNum lx ly dx dy s c / (dx * s)
  else (ly + dy) / s

theorem lastv_bd {ly dx dy s t : Int} (h1 : -1073741823 ≤ ly ∧ ly ≤ 1073741823) (h2 : -1073741823 ≤ ly + dy ∧ ly + dy ≤ 1073741823) (h3 : 1 ≤ dx ∧ dx ≤ 2147483646) (h5 : 1 ≤ s ∧ s ≤ 2147483648) (h4 : 0 ≤ t ∧ t ≤ dx) :
    -4611686018427387904 ≤ (ly * dx + dy * t) / (dx * s) ∧ (ly * dx + dy * t) / (dx * s) ≤ 4611686018427387904 := by
  obtain ⟨c1, c2, c3⟩ := num_bd (t := t) h1 h2 h3.2 h4
  have := den_bd h3.1 h3.2 h5.1 h5.2
  exact ediv_bd _ _ _ (by omega) (by omega) c3.1 c3.2

theorem rows_10 (w : World) (lx ly dx dy s c : Int) (h0 : -1073741823 ≤ lx ∧ lx ≤ 1073741823) (h1 : -1073741823 ≤ ly ∧ ly ≤ 1073741823) (h2 : -1073741823 ≤ ly + dy ∧ ly + dy ≤ 1073741823) (h3 : 1 ≤ dx ∧ dx ≤ 2147483646) (h5 : 1 ≤ s ∧ s ≤ 2147483648)
    (hc : lx - s < c * s ∧ c * s ≤ lx + dx) (hcs : (c + 1) * s = c * s + s) (hcc : -2147483648 ≤ c ∧ c ≤ 2147483647) (hA : lx < c * s) (hL : ¬ (c + 1) * s ≤ lx + dx) :
    Calls Try.prog 34 #[ln lx ly dx dy s, .int .i64 c] w fun e w' => e = .returned (.tuple #[.int .i64 (min ((ly * dx + dy * (c * s - lx)) / (dx * s)) ((ly + dy) / s)), .int .i64 (max ((ly * dx + dy * (c * s - lx)) / (dx * s)) ((ly + dy) / s))]) ∧ Fr [] w w' := by
  have w1 := wr (x := ly + dy) (by omega)
  have w2 := wr (x := c * s) (by omega)
  have w3 := wr (x := (c + 1) * s) (by omega)
  have w4 := wr (x := lx + dx) (by omega)
  have w5 := wr (x := c + 1) (by omega)
  have z0 : (dx == 0) = false := by rw [beq_eq_false_iff_ne]; omega
  have HX := floored ly s h5.1 h5.2 (by unfold I32; omega)
  have HY := floored (ly + dy) s h5.1 h5.2 (by unfold I32; omega)
  have HL := Lib.hid (fun w x h4 => row_lat w lx ly dx dy s x h0 h1 h2 h3 h4 h5)
  have q1 := Lib.hid (HL.out · (c * s) (by omega))
  clear HL h1 h2 h3 h5 hc hcs hcc h0
  unfold ln at *
  go_enter Try.func34, Try.ntmps34
  go_wp2_with fail
  (with_reducible refine (HX.on _).mono ?_)
  rintro e w1 ⟨rfl, rfl⟩
  have cb := Blk.new w #[.int .i64 lx, .int .i64 ly, .int .i64 dx, .int .i64 dy, .int .i64 s] 58
  have FR := Lib.hid ((Fr.refl [] w).alloc (.cells #[.int .i64 lx, .int .i64 ly, .int .i64 dx, .int .i64 dy, .int .i64 s] 58))
  go_wp2_with fail
  (with_reducible refine (q1.out _).mono ?_)
  rintro e w1 ⟨rfl, fr⟩
  have cb := fr.blk cb (by simp)
  have c0 := cb.at 0 (v := .int .i64 lx) rfl
  have c1 := cb.at 1 (v := .int .i64 ly) rfl
  have c2 := cb.at 2 (v := .int .i64 dx) rfl
  have c3 := cb.at 3 (v := .int .i64 dy) rfl
  have c4 := cb.at 4 (v := .int .i64 s) rfl
  have FR := Lib.hid (FR.out.trans fr (by simp))
  clear fr
  go_wp2_with fail
  (with_reducible refine (HY.on _).mono ?_)
  rintro e w2 ⟨rfl, rfl⟩
  go_wp2_with fail
  all_goals
    go_ret2
    exact ⟨ret_two (by omega) (by omega), FR.out⟩

theorem rows_11 (w : World) (lx ly dx dy s c : Int) (h0 : -1073741823 ≤ lx ∧ lx ≤ 1073741823) (h1 : -1073741823 ≤ ly ∧ ly ≤ 1073741823) (h2 : -1073741823 ≤ ly + dy ∧ ly + dy ≤ 1073741823) (h3 : 1 ≤ dx ∧ dx ≤ 2147483646) (h5 : 1 ≤ s ∧ s ≤ 2147483648)
    (hc : lx - s < c * s ∧ c * s ≤ lx + dx) (hcs : (c + 1) * s = c * s + s) (hcc : -2147483648 ≤ c ∧ c ≤ 2147483647) (hA : lx < c * s) (hL : (c + 1) * s ≤ lx + dx) (hO : ((ly * dx + dy * ((c + 1) * s - lx)) / (dx * s) * (dx * s) == ly * dx + dy * ((c + 1) * s - lx)) = false) :
    Calls Try.prog 34 #[ln lx ly dx dy s, .int .i64 c] w fun e w' => e = .returned (.tuple #[.int .i64 (min ((ly * dx + dy * (c * s - lx)) / (dx * s)) ((ly * dx + dy * ((c + 1) * s - lx)) / (dx * s))), .int .i64 (max ((ly * dx + dy * (c * s - lx)) / (dx * s)) ((ly * dx + dy * ((c + 1) * s - lx)) / (dx * s)))]) ∧ Fr [] w w' := by
  have w1 := wr (x := ly + dy) (by omega)
  have w2 := wr (x := c * s) (by omega)
  have w3 := wr (x := (c + 1) * s) (by omega)
  have w4 := wr (x := lx + dx) (by omega)
  have w5 := wr (x := c + 1) (by omega)
  have z0 : (dx == 0) = false := by rw [beq_eq_false_iff_ne]; omega
  have HX := floored ly s h5.1 h5.2 (by unfold I32; omega)
  have HY := floored (ly + dy) s h5.1 h5.2 (by unfold I32; omega)
  have HL := Lib.hid (fun w x h4 => row_lat w lx ly dx dy s x h0 h1 h2 h3 h4 h5)
  have q1 := Lib.hid (HL.out · (c * s) (by omega))
  have q2 := Lib.hid (HL.out · ((c + 1) * s) (by omega))
  clear HL h1 h2 h3 h5 hc hcs hcc h0
  unfold ln at *
  go_enter Try.func34, Try.ntmps34
  go_wp2_with fail
  (with_reducible refine (HX.on _).mono ?_)
  rintro e w1 ⟨rfl, rfl⟩
  have cb := Blk.new w #[.int .i64 lx, .int .i64 ly, .int .i64 dx, .int .i64 dy, .int .i64 s] 58
  have FR := Lib.hid ((Fr.refl [] w).alloc (.cells #[.int .i64 lx, .int .i64 ly, .int .i64 dx, .int .i64 dy, .int .i64 s] 58))
  go_wp2_with fail
  (with_reducible refine (q1.out _).mono ?_)
  rintro e w1 ⟨rfl, fr⟩
  have cb := fr.blk cb (by simp)
  have c0 := cb.at 0 (v := .int .i64 lx) rfl
  have c1 := cb.at 1 (v := .int .i64 ly) rfl
  have c2 := cb.at 2 (v := .int .i64 dx) rfl
  have c3 := cb.at 3 (v := .int .i64 dy) rfl
  have c4 := cb.at 4 (v := .int .i64 s) rfl
  have FR := Lib.hid (FR.out.trans fr (by simp))
  clear fr
  go_wp2_with fail
  (with_reducible refine (HY.on _).mono ?_)
  rintro e w2 ⟨rfl, rfl⟩
  go_wp2_with fail
  (with_reducible refine (q2.out _).mono ?_)
  rintro e w2 ⟨rfl, fr⟩
  have cb := fr.blk cb (by simp)
  have c0 := cb.at 0 (v := .int .i64 lx) rfl
  have c1 := cb.at 1 (v := .int .i64 ly) rfl
  have c2 := cb.at 2 (v := .int .i64 dx) rfl
  have c3 := cb.at 3 (v := .int .i64 dy) rfl
  have c4 := cb.at 4 (v := .int .i64 s) rfl
  have FR := Lib.hid (FR.out.trans fr (by simp))
  clear fr
  rw [hO]
  go_wp2_with fail
  all_goals
    go_ret2
    exact ⟨ret_two (by omega) (by omega), FR.out⟩

theorem rows_12 (w : World) (lx ly dx dy s c : Int) (h0 : -1073741823 ≤ lx ∧ lx ≤ 1073741823) (h1 : -1073741823 ≤ ly ∧ ly ≤ 1073741823) (h2 : -1073741823 ≤ ly + dy ∧ ly + dy ≤ 1073741823) (h3 : 1 ≤ dx ∧ dx ≤ 2147483646) (h5 : 1 ≤ s ∧ s ≤ 2147483648)
    (hc : lx - s < c * s ∧ c * s ≤ lx + dx) (hcs : (c + 1) * s = c * s + s) (hcc : -2147483648 ≤ c ∧ c ≤ 2147483647) (hA : lx < c * s) (hL : (c + 1) * s ≤ lx + dx) (hO : ((ly * dx + dy * ((c + 1) * s - lx)) / (dx * s) * (dx * s) == ly * dx + dy * ((c + 1) * s - lx)) = true) (hD : 0 < dy) :
    Calls Try.prog 34 #[ln lx ly dx dy s, .int .i64 c] w fun e w' => e = .returned (.tuple #[.int .i64 (min ((ly * dx + dy * (c * s - lx)) / (dx * s)) ((ly * dx + dy * ((c + 1) * s - lx)) / (dx * s) - 1)), .int .i64 (max ((ly * dx + dy * (c * s - lx)) / (dx * s)) ((ly * dx + dy * ((c + 1) * s - lx)) / (dx * s) - 1))]) ∧ Fr [] w w' := by
  have w1 := wr (x := ly + dy) (by omega)
  have w2 := wr (x := c * s) (by omega)
  have w3 := wr (x := (c + 1) * s) (by omega)
  have w4 := wr (x := lx + dx) (by omega)
  have w5 := wr (x := c + 1) (by omega)
  have z0 : (dx == 0) = false := by rw [beq_eq_false_iff_ne]; omega
  have HX := floored ly s h5.1 h5.2 (by unfold I32; omega)
  have HY := floored (ly + dy) s h5.1 h5.2 (by unfold I32; omega)
  have HL := Lib.hid (fun w x h4 => row_lat w lx ly dx dy s x h0 h1 h2 h3 h4 h5)
  obtain ⟨k1, k2⟩ := lastv_bd h1 h2 h3 h5 (t := (c + 1) * s - lx) (by omega)
  have w6 := wr (x := (ly * dx + dy * ((c + 1) * s - lx)) / (dx * s) - 1) (by omega)
  have q1 := Lib.hid (HL.out · (c * s) (by omega))
  have q2 := Lib.hid (HL.out · ((c + 1) * s) (by omega))
  clear HL h1 h2 h3 h5 hc hcs hcc h0
  unfold ln at *
  go_enter Try.func34, Try.ntmps34
  go_wp2_with fail
  (with_reducible refine (HX.on _).mono ?_)
  rintro e w1 ⟨rfl, rfl⟩
  have cb := Blk.new w #[.int .i64 lx, .int .i64 ly, .int .i64 dx, .int .i64 dy, .int .i64 s] 58
  have FR := Lib.hid ((Fr.refl [] w).alloc (.cells #[.int .i64 lx, .int .i64 ly, .int .i64 dx, .int .i64 dy, .int .i64 s] 58))
  go_wp2_with fail
  (with_reducible refine (q1.out _).mono ?_)
  rintro e w1 ⟨rfl, fr⟩
  have cb := fr.blk cb (by simp)
  have c0 := cb.at 0 (v := .int .i64 lx) rfl
  have c1 := cb.at 1 (v := .int .i64 ly) rfl
  have c2 := cb.at 2 (v := .int .i64 dx) rfl
  have c3 := cb.at 3 (v := .int .i64 dy) rfl
  have c4 := cb.at 4 (v := .int .i64 s) rfl
  have FR := Lib.hid (FR.out.trans fr (by simp))
  clear fr
  go_wp2_with fail
  (with_reducible refine (HY.on _).mono ?_)
  rintro e w2 ⟨rfl, rfl⟩
  go_wp2_with fail
  (with_reducible refine (q2.out _).mono ?_)
  rintro e w2 ⟨rfl, fr⟩
  have cb := fr.blk cb (by simp)
  have c0 := cb.at 0 (v := .int .i64 lx) rfl
  have c1 := cb.at 1 (v := .int .i64 ly) rfl
  have c2 := cb.at 2 (v := .int .i64 dx) rfl
  have c3 := cb.at 3 (v := .int .i64 dy) rfl
  have c4 := cb.at 4 (v := .int .i64 s) rfl
  have FR := Lib.hid (FR.out.trans fr (by simp))
  clear fr
  rw [hO]
  go_wp2_with fail
  all_goals
    go_ret2
    exact ⟨ret_two (by omega) (by omega), FR.out⟩

theorem rows_13 (w : World) (lx ly dx dy s c : Int) (h0 : -1073741823 ≤ lx ∧ lx ≤ 1073741823) (h1 : -1073741823 ≤ ly ∧ ly ≤ 1073741823) (h2 : -1073741823 ≤ ly + dy ∧ ly + dy ≤ 1073741823) (h3 : 1 ≤ dx ∧ dx ≤ 2147483646) (h5 : 1 ≤ s ∧ s ≤ 2147483648)
    (hc : lx - s < c * s ∧ c * s ≤ lx + dx) (hcs : (c + 1) * s = c * s + s) (hcc : -2147483648 ≤ c ∧ c ≤ 2147483647) (hA : lx < c * s) (hL : (c + 1) * s ≤ lx + dx) (hO : ((ly * dx + dy * ((c + 1) * s - lx)) / (dx * s) * (dx * s) == ly * dx + dy * ((c + 1) * s - lx)) = true) (hD : ¬ 0 < dy) :
    Calls Try.prog 34 #[ln lx ly dx dy s, .int .i64 c] w fun e w' => e = .returned (.tuple #[.int .i64 (min ((ly * dx + dy * (c * s - lx)) / (dx * s)) ((ly * dx + dy * ((c + 1) * s - lx)) / (dx * s))), .int .i64 (max ((ly * dx + dy * (c * s - lx)) / (dx * s)) ((ly * dx + dy * ((c + 1) * s - lx)) / (dx * s)))]) ∧ Fr [] w w' := by
  have w1 := wr (x := ly + dy) (by omega)
  have w2 := wr (x := c * s) (by omega)
  have w3 := wr (x := (c + 1) * s) (by omega)
  have w4 := wr (x := lx + dx) (by omega)
  have w5 := wr (x := c + 1) (by omega)
  have z0 : (dx == 0) = false := by rw [beq_eq_false_iff_ne]; omega
  have HX := floored ly s h5.1 h5.2 (by unfold I32; omega)
  have HY := floored (ly + dy) s h5.1 h5.2 (by unfold I32; omega)
  have HL := Lib.hid (fun w x h4 => row_lat w lx ly dx dy s x h0 h1 h2 h3 h4 h5)
  have q1 := Lib.hid (HL.out · (c * s) (by omega))
  have q2 := Lib.hid (HL.out · ((c + 1) * s) (by omega))
  clear HL h1 h2 h3 h5 hc hcs hcc h0
  unfold ln at *
  go_enter Try.func34, Try.ntmps34
  go_wp2_with fail
  (with_reducible refine (HX.on _).mono ?_)
  rintro e w1 ⟨rfl, rfl⟩
  have cb := Blk.new w #[.int .i64 lx, .int .i64 ly, .int .i64 dx, .int .i64 dy, .int .i64 s] 58
  have FR := Lib.hid ((Fr.refl [] w).alloc (.cells #[.int .i64 lx, .int .i64 ly, .int .i64 dx, .int .i64 dy, .int .i64 s] 58))
  go_wp2_with fail
  (with_reducible refine (q1.out _).mono ?_)
  rintro e w1 ⟨rfl, fr⟩
  have cb := fr.blk cb (by simp)
  have c0 := cb.at 0 (v := .int .i64 lx) rfl
  have c1 := cb.at 1 (v := .int .i64 ly) rfl
  have c2 := cb.at 2 (v := .int .i64 dx) rfl
  have c3 := cb.at 3 (v := .int .i64 dy) rfl
  have c4 := cb.at 4 (v := .int .i64 s) rfl
  have FR := Lib.hid (FR.out.trans fr (by simp))
  clear fr
  go_wp2_with fail
  (with_reducible refine (HY.on _).mono ?_)
  rintro e w2 ⟨rfl, rfl⟩
  go_wp2_with fail
  (with_reducible refine (q2.out _).mono ?_)
  rintro e w2 ⟨rfl, fr⟩
  have cb := fr.blk cb (by simp)
  have c0 := cb.at 0 (v := .int .i64 lx) rfl
  have c1 := cb.at 1 (v := .int .i64 ly) rfl
  have c2 := cb.at 2 (v := .int .i64 dx) rfl
  have c3 := cb.at 3 (v := .int .i64 dy) rfl
  have c4 := cb.at 4 (v := .int .i64 s) rfl
  have FR := Lib.hid (FR.out.trans fr (by simp))
  clear fr
  rw [hO]
  go_wp2_with fail
  all_goals
    go_ret2
    exact ⟨ret_two (by omega) (by omega), FR.out⟩

theorem rows_20 (w : World) (lx ly dx dy s c : Int) (h0 : -1073741823 ≤ lx ∧ lx ≤ 1073741823) (h1 : -1073741823 ≤ ly ∧ ly ≤ 1073741823) (h2 : -1073741823 ≤ ly + dy ∧ ly + dy ≤ 1073741823) (h3 : 1 ≤ dx ∧ dx ≤ 2147483646) (h5 : 1 ≤ s ∧ s ≤ 2147483648)
    (hc : lx - s < c * s ∧ c * s ≤ lx + dx) (hcs : (c + 1) * s = c * s + s) (hcc : -2147483648 ≤ c ∧ c ≤ 2147483647) (hA : ¬ lx < c * s) (hL : ¬ (c + 1) * s ≤ lx + dx) :
    Calls Try.prog 34 #[ln lx ly dx dy s, .int .i64 c] w fun e w' => e = .returned (.tuple #[.int .i64 (min (ly / s) ((ly + dy) / s)), .int .i64 (max (ly / s) ((ly + dy) / s))]) ∧ Fr [] w w' := by
  have w1 := wr (x := ly + dy) (by omega)
  have w2 := wr (x := c * s) (by omega)
  have w3 := wr (x := (c + 1) * s) (by omega)
  have w4 := wr (x := lx + dx) (by omega)
  have w5 := wr (x := c + 1) (by omega)
  have z0 : (dx == 0) = false := by rw [beq_eq_false_iff_ne]; omega
  have HX := floored ly s h5.1 h5.2 (by unfold I32; omega)
  have HY := floored (ly + dy) s h5.1 h5.2 (by unfold I32; omega)
  have HL := Lib.hid (fun w x h4 => row_lat w lx ly dx dy s x h0 h1 h2 h3 h4 h5)
  clear HL h1 h2 h3 h5 hc hcs hcc h0
  unfold ln at *
  go_enter Try.func34, Try.ntmps34
  go_wp2_with fail
  (with_reducible refine (HX.on _).mono ?_)
  rintro e w1 ⟨rfl, rfl⟩
  have cb := Blk.new w #[.int .i64 lx, .int .i64 ly, .int .i64 dx, .int .i64 dy, .int .i64 s] 58
  have FR := Lib.hid ((Fr.refl [] w).alloc (.cells #[.int .i64 lx, .int .i64 ly, .int .i64 dx, .int .i64 dy, .int .i64 s] 58))
  go_wp2_with fail
  (with_reducible refine (HY.on _).mono ?_)
  rintro e w2 ⟨rfl, rfl⟩
  go_wp2_with fail
  all_goals
    go_ret2
    exact ⟨ret_two (by omega) (by omega), FR.out⟩

theorem rows_21 (w : World) (lx ly dx dy s c : Int) (h0 : -1073741823 ≤ lx ∧ lx ≤ 1073741823) (h1 : -1073741823 ≤ ly ∧ ly ≤ 1073741823) (h2 : -1073741823 ≤ ly + dy ∧ ly + dy ≤ 1073741823) (h3 : 1 ≤ dx ∧ dx ≤ 2147483646) (h5 : 1 ≤ s ∧ s ≤ 2147483648)
    (hc : lx - s < c * s ∧ c * s ≤ lx + dx) (hcs : (c + 1) * s = c * s + s) (hcc : -2147483648 ≤ c ∧ c ≤ 2147483647) (hA : ¬ lx < c * s) (hL : (c + 1) * s ≤ lx + dx) (hO : ((ly * dx + dy * ((c + 1) * s - lx)) / (dx * s) * (dx * s) == ly * dx + dy * ((c + 1) * s - lx)) = false) :
    Calls Try.prog 34 #[ln lx ly dx dy s, .int .i64 c] w fun e w' => e = .returned (.tuple #[.int .i64 (min (ly / s) ((ly * dx + dy * ((c + 1) * s - lx)) / (dx * s))), .int .i64 (max (ly / s) ((ly * dx + dy * ((c + 1) * s - lx)) / (dx * s)))]) ∧ Fr [] w w' := by
  have w1 := wr (x := ly + dy) (by omega)
  have w2 := wr (x := c * s) (by omega)
  have w3 := wr (x := (c + 1) * s) (by omega)
  have w4 := wr (x := lx + dx) (by omega)
  have w5 := wr (x := c + 1) (by omega)
  have z0 : (dx == 0) = false := by rw [beq_eq_false_iff_ne]; omega
  have HX := floored ly s h5.1 h5.2 (by unfold I32; omega)
  have HY := floored (ly + dy) s h5.1 h5.2 (by unfold I32; omega)
  have HL := Lib.hid (fun w x h4 => row_lat w lx ly dx dy s x h0 h1 h2 h3 h4 h5)
  have q2 := Lib.hid (HL.out · ((c + 1) * s) (by omega))
  clear HL h1 h2 h3 h5 hc hcs hcc h0
  unfold ln at *
  go_enter Try.func34, Try.ntmps34
  go_wp2_with fail
  (with_reducible refine (HX.on _).mono ?_)
  rintro e w1 ⟨rfl, rfl⟩
  have cb := Blk.new w #[.int .i64 lx, .int .i64 ly, .int .i64 dx, .int .i64 dy, .int .i64 s] 58
  have FR := Lib.hid ((Fr.refl [] w).alloc (.cells #[.int .i64 lx, .int .i64 ly, .int .i64 dx, .int .i64 dy, .int .i64 s] 58))
  go_wp2_with fail
  (with_reducible refine (HY.on _).mono ?_)
  rintro e w2 ⟨rfl, rfl⟩
  go_wp2_with fail
  (with_reducible refine (q2.out _).mono ?_)
  rintro e w2 ⟨rfl, fr⟩
  have cb := fr.blk cb (by simp)
  have c0 := cb.at 0 (v := .int .i64 lx) rfl
  have c1 := cb.at 1 (v := .int .i64 ly) rfl
  have c2 := cb.at 2 (v := .int .i64 dx) rfl
  have c3 := cb.at 3 (v := .int .i64 dy) rfl
  have c4 := cb.at 4 (v := .int .i64 s) rfl
  have FR := Lib.hid (FR.out.trans fr (by simp))
  clear fr
  rw [hO]
  go_wp2_with fail
  all_goals
    go_ret2
    exact ⟨ret_two (by omega) (by omega), FR.out⟩

theorem rows_22 (w : World) (lx ly dx dy s c : Int) (h0 : -1073741823 ≤ lx ∧ lx ≤ 1073741823) (h1 : -1073741823 ≤ ly ∧ ly ≤ 1073741823) (h2 : -1073741823 ≤ ly + dy ∧ ly + dy ≤ 1073741823) (h3 : 1 ≤ dx ∧ dx ≤ 2147483646) (h5 : 1 ≤ s ∧ s ≤ 2147483648)
    (hc : lx - s < c * s ∧ c * s ≤ lx + dx) (hcs : (c + 1) * s = c * s + s) (hcc : -2147483648 ≤ c ∧ c ≤ 2147483647) (hA : ¬ lx < c * s) (hL : (c + 1) * s ≤ lx + dx) (hO : ((ly * dx + dy * ((c + 1) * s - lx)) / (dx * s) * (dx * s) == ly * dx + dy * ((c + 1) * s - lx)) = true) (hD : 0 < dy) :
    Calls Try.prog 34 #[ln lx ly dx dy s, .int .i64 c] w fun e w' => e = .returned (.tuple #[.int .i64 (min (ly / s) ((ly * dx + dy * ((c + 1) * s - lx)) / (dx * s) - 1)), .int .i64 (max (ly / s) ((ly * dx + dy * ((c + 1) * s - lx)) / (dx * s) - 1))]) ∧ Fr [] w w' := by
  have w1 := wr (x := ly + dy) (by omega)
  have w2 := wr (x := c * s) (by omega)
  have w3 := wr (x := (c + 1) * s) (by omega)
  have w4 := wr (x := lx + dx) (by omega)
  have w5 := wr (x := c + 1) (by omega)
  have z0 : (dx == 0) = false := by rw [beq_eq_false_iff_ne]; omega
  have HX := floored ly s h5.1 h5.2 (by unfold I32; omega)
  have HY := floored (ly + dy) s h5.1 h5.2 (by unfold I32; omega)
  have HL := Lib.hid (fun w x h4 => row_lat w lx ly dx dy s x h0 h1 h2 h3 h4 h5)
  obtain ⟨k1, k2⟩ := lastv_bd h1 h2 h3 h5 (t := (c + 1) * s - lx) (by omega)
  have w6 := wr (x := (ly * dx + dy * ((c + 1) * s - lx)) / (dx * s) - 1) (by omega)
  have q2 := Lib.hid (HL.out · ((c + 1) * s) (by omega))
  clear HL h1 h2 h3 h5 hc hcs hcc h0
  unfold ln at *
  go_enter Try.func34, Try.ntmps34
  go_wp2_with fail
  (with_reducible refine (HX.on _).mono ?_)
  rintro e w1 ⟨rfl, rfl⟩
  have cb := Blk.new w #[.int .i64 lx, .int .i64 ly, .int .i64 dx, .int .i64 dy, .int .i64 s] 58
  have FR := Lib.hid ((Fr.refl [] w).alloc (.cells #[.int .i64 lx, .int .i64 ly, .int .i64 dx, .int .i64 dy, .int .i64 s] 58))
  go_wp2_with fail
  (with_reducible refine (HY.on _).mono ?_)
  rintro e w2 ⟨rfl, rfl⟩
  go_wp2_with fail
  (with_reducible refine (q2.out _).mono ?_)
  rintro e w2 ⟨rfl, fr⟩
  have cb := fr.blk cb (by simp)
  have c0 := cb.at 0 (v := .int .i64 lx) rfl
  have c1 := cb.at 1 (v := .int .i64 ly) rfl
  have c2 := cb.at 2 (v := .int .i64 dx) rfl
  have c3 := cb.at 3 (v := .int .i64 dy) rfl
  have c4 := cb.at 4 (v := .int .i64 s) rfl
  have FR := Lib.hid (FR.out.trans fr (by simp))
  clear fr
  rw [hO]
  go_wp2_with fail
  all_goals
    go_ret2
    exact ⟨ret_two (by omega) (by omega), FR.out⟩

theorem rows_23 (w : World) (lx ly dx dy s c : Int) (h0 : -1073741823 ≤ lx ∧ lx ≤ 1073741823) (h1 : -1073741823 ≤ ly ∧ ly ≤ 1073741823) (h2 : -1073741823 ≤ ly + dy ∧ ly + dy ≤ 1073741823) (h3 : 1 ≤ dx ∧ dx ≤ 2147483646) (h5 : 1 ≤ s ∧ s ≤ 2147483648)
    (hc : lx - s < c * s ∧ c * s ≤ lx + dx) (hcs : (c + 1) * s = c * s + s) (hcc : -2147483648 ≤ c ∧ c ≤ 2147483647) (hA : ¬ lx < c * s) (hL : (c + 1) * s ≤ lx + dx) (hO : ((ly * dx + dy * ((c + 1) * s - lx)) / (dx * s) * (dx * s) == ly * dx + dy * ((c + 1) * s - lx)) = true) (hD : ¬ 0 < dy) :
    Calls Try.prog 34 #[ln lx ly dx dy s, .int .i64 c] w fun e w' => e = .returned (.tuple #[.int .i64 (min (ly / s) ((ly * dx + dy * ((c + 1) * s - lx)) / (dx * s))), .int .i64 (max (ly / s) ((ly * dx + dy * ((c + 1) * s - lx)) / (dx * s)))]) ∧ Fr [] w w' := by
  have w1 := wr (x := ly + dy) (by omega)
  have w2 := wr (x := c * s) (by omega)
  have w3 := wr (x := (c + 1) * s) (by omega)
  have w4 := wr (x := lx + dx) (by omega)
  have w5 := wr (x := c + 1) (by omega)
  have z0 : (dx == 0) = false := by rw [beq_eq_false_iff_ne]; omega
  have HX := floored ly s h5.1 h5.2 (by unfold I32; omega)
  have HY := floored (ly + dy) s h5.1 h5.2 (by unfold I32; omega)
  have HL := Lib.hid (fun w x h4 => row_lat w lx ly dx dy s x h0 h1 h2 h3 h4 h5)
  have q2 := Lib.hid (HL.out · ((c + 1) * s) (by omega))
  clear HL h1 h2 h3 h5 hc hcs hcc h0
  unfold ln at *
  go_enter Try.func34, Try.ntmps34
  go_wp2_with fail
  (with_reducible refine (HX.on _).mono ?_)
  rintro e w1 ⟨rfl, rfl⟩
  have cb := Blk.new w #[.int .i64 lx, .int .i64 ly, .int .i64 dx, .int .i64 dy, .int .i64 s] 58
  have FR := Lib.hid ((Fr.refl [] w).alloc (.cells #[.int .i64 lx, .int .i64 ly, .int .i64 dx, .int .i64 dy, .int .i64 s] 58))
  go_wp2_with fail
  (with_reducible refine (HY.on _).mono ?_)
  rintro e w2 ⟨rfl, rfl⟩
  go_wp2_with fail
  (with_reducible refine (q2.out _).mono ?_)
  rintro e w2 ⟨rfl, fr⟩
  have cb := fr.blk cb (by simp)
  have c0 := cb.at 0 (v := .int .i64 lx) rfl
  have c1 := cb.at 1 (v := .int .i64 ly) rfl
  have c2 := cb.at 2 (v := .int .i64 dx) rfl
  have c3 := cb.at 3 (v := .int .i64 dy) rfl
  have c4 := cb.at 4 (v := .int .i64 s) rfl
  have FR := Lib.hid (FR.out.trans fr (by simp))
  clear fr
  rw [hO]
  go_wp2_with fail
  all_goals
    go_ret2
    exact ⟨ret_two (by omega) (by omega), FR.out⟩



end Go.Proofs.Ythagbhiblncpkaa
