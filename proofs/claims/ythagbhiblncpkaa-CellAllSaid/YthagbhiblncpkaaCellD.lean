/-
  The document's rows of a line within a column, by a contract; they are those of package cell.
-/
import Derived.Test.YthagbhiblncpkaaCellC
namespace Go.Proofs.Ythagbhiblncpkaa
open Go.RowKit
set_option linter.unusedVariables false

theorem down_lat (w : World) {py dx dy s t : Int} (h1 : -1073741823 ≤ py ∧ py ≤ 1073741823) (h2 : -1073741823 ≤ py + dy ∧ py + dy ≤ 1073741823) (h3 : 1 ≤ dx ∧ dx ≤ 2147483646) (h4 : 0 ≤ t ∧ t ≤ dx) (h5 : 1 ≤ s ∧ s ≤ 2147483648) :
    Calls Try.prog 35 #[.int .i64 (py * dx + dy * t), .int .i64 (dx * s)] w fun e w' => e = .returned (.int .i64 ((py * dx + dy * t) / (dx * s))) ∧ w = w' := by
  obtain ⟨c1, c2, c3⟩ := num_bd (t := t) h1 h2 h3.2 h4
  have := den_bd h3.1 h3.2 h5.1 h5.2
  exact down_any w _ _ this.1 c3.1 c3.2 this.2
theorem up_lat (w : World) {py dx dy s t : Int} (h1 : -1073741823 ≤ py ∧ py ≤ 1073741823) (h2 : -1073741823 ≤ py + dy ∧ py + dy ≤ 1073741823) (h3 : 1 ≤ dx ∧ dx ≤ 2147483646) (h4 : 0 ≤ t ∧ t ≤ dx) (h5 : 1 ≤ s ∧ s ≤ 2147483648) :
    Calls Try.prog 45 #[.int .i64 (py * dx + dy * t), .int .i64 (dx * s)] w fun e w' => e = .returned (.int .i64 (-(-(py * dx + dy * t) / (dx * s)))) ∧ w = w' := by
  obtain ⟨c1, c2, c3⟩ := num_bd (t := t) h1 h2 h3.2 h4
  have := den_bd h3.1 h3.2 h5.1 h5.2
  exact up_any w _ _ this.1 c3.1 c3.2 this.2

set_option maxHeartbeats 1000000 in
theorem col_nil (w : World) (px py qx qy s c : Int) (h0 : -1073741823 ≤ px ∧ px ≤ 1073741823) (h1 : -1073741823 ≤ py ∧ py ≤ 1073741823) (h2 : -1073741823 ≤ qy ∧ qy ≤ 1073741823) (h3 : px = qx) (h5 : 1 ≤ s ∧ s ≤ 2147483648) :
    Calls Try.prog 36 #[pt px py, pt qx qy, .int .i64 s, .int .i64 c] w fun e w' => e = .returned (.tuple #[.int .i64 (min (py / s) (qy / s)), .int .i64 (max (py / s) (qy / s))]) ∧ Fr [] w w' := by
  subst h3
  have w1 := wr (x := px) (by omega)
  have w2 := wr (x := py) (by omega)
  have w3 := wr (x := qy) (by omega)
  have w4 := wr (x := qy - py) (by omega)
  have w5 : IntKind.i64.wrap (px - px) = 0 := by rw [Int.sub_self]; decide
  have HX := downed py s h5.1 h5.2 (by unfold I32; omega)
  have HY := downed qy s h5.1 h5.2 (by unfold I32; omega)
  clear h0 h1 h2 h5
  unfold pt
  go_enter Try.func36, Try.ntmps36
  go_wp2_with fail
  (with_reducible refine (HX.on _).mono ?_)
  rintro e w1 ⟨rfl, rfl⟩
  go_wp2_with fail
  (with_reducible refine (HY.on _).mono ?_)
  rintro e w1 ⟨rfl, rfl⟩
  go_wp2_with fail
  all_goals
    go_ret2
    exact ⟨ret_two (by omega) (by omega), ((Fr.refl _ _).alloc _).alloc _⟩

set_option maxHeartbeats 1000000 in
theorem col_10 (w : World) (px py qx qy dx dy s c : Int) (hdx : qx - px = dx) (hdy : qy - py = dy) (h0 : -1073741823 ≤ px ∧ px ≤ 1073741823) (h1 : -1073741823 ≤ py ∧ py ≤ 1073741823) (h2 : -1073741823 ≤ py + dy ∧ py + dy ≤ 1073741823) (h3 : 1 ≤ dx ∧ dx ≤ 2147483646) (h5 : 1 ≤ s ∧ s ≤ 2147483648)
    (hq : -1073741823 ≤ qx ∧ qx ≤ 1073741823) (hc : px - s < c * s ∧ c * s ≤ qx) (hA : px < c * s) (hL : ¬ c * s + s ≤ qx) :
    Calls Try.prog 36 #[pt px py, pt qx qy, .int .i64 s, .int .i64 c] w fun e w' => e = .returned (.tuple #[.int .i64 (min ((py * dx + dy * (c * s - px)) / (dx * s)) (qy / s)), .int .i64 (max ((py * dx + dy * (c * s - px)) / (dx * s)) (qy / s))]) ∧ Fr [] w w' := by
  have w1 := wr (x := px) (by omega)
  have w2 := wr (x := py) (by omega)
  have w3 := wr (x := qx) (by omega)
  have w4 := wr (x := qy) (by omega)
  have w5 : IntKind.i64.wrap (qx - px) = dx := (wr (by omega)).trans hdx
  have w6 : IntKind.i64.wrap (qy - py) = dy := (wr (by omega)).trans hdy
  have w7 := wr (x := c * s) (by omega)
  have w8 := wr (x := c * s + s) (by omega)
  have w9 := wr (x := py * dx) (by have := (num_bd (t := 0) h1 h2 h3.2 (by omega)).1; omega)
  have w10 := wr (x := dx * s) (by have := den_bd h3.1 h3.2 h5.1 h5.2; omega)
  have z0 : (dx == 0) = false := by rw [beq_eq_false_iff_ne]; omega
  have HX := downed py s h5.1 h5.2 (by unfold I32; omega)
  have HY := downed qy s h5.1 h5.2 (by unfold I32; omega)
  have v1 := wr (x := c * s - px) (by omega)
  have v2 := wr (x := dy * (c * s - px)) (by have := (num_bd (t := c * s - px) h1 h2 h3.2 (by omega)).2.1; omega)
  have v3 := wr (x := py * dx + dy * (c * s - px)) (by have := (num_bd (t := c * s - px) h1 h2 h3.2 (by omega)).2.2; omega)
  have H1 := Lib.hid (fun w => down_lat w (py := py) (dx := dx) (dy := dy) (s := s) (t := c * s - px) h1 h2 h3 (by omega) h5)
  clear h1 h2 h3 h5 hc h0 hq hdx hdy 
  unfold pt
  go_enter Try.func36, Try.ntmps36
  go_wp2_with fail
  (with_reducible refine (HX.on _).mono ?_)
  rintro e w1 ⟨rfl, rfl⟩
  go_wp2_with fail
  (with_reducible refine (H1.out _).mono ?_)
  rintro e w1 ⟨rfl, rfl⟩
  go_wp2_with fail
  (with_reducible refine (HY.on _).mono ?_)
  rintro e w1 ⟨rfl, rfl⟩
  go_wp2_with fail
  all_goals
    go_ret2
    exact ⟨ret_two (by omega) (by omega), ((Fr.refl _ _).alloc _).alloc _⟩

set_option maxHeartbeats 1000000 in
theorem col_12 (w : World) (px py qx qy dx dy s c : Int) (hdx : qx - px = dx) (hdy : qy - py = dy) (h0 : -1073741823 ≤ px ∧ px ≤ 1073741823) (h1 : -1073741823 ≤ py ∧ py ≤ 1073741823) (h2 : -1073741823 ≤ py + dy ∧ py + dy ≤ 1073741823) (h3 : 1 ≤ dx ∧ dx ≤ 2147483646) (h5 : 1 ≤ s ∧ s ≤ 2147483648)
    (hq : -1073741823 ≤ qx ∧ qx ≤ 1073741823) (hc : px - s < c * s ∧ c * s ≤ qx) (hA : px < c * s) (hL : c * s + s ≤ qx) (hD : 0 < dy) :
    Calls Try.prog 36 #[pt px py, pt qx qy, .int .i64 s, .int .i64 c] w fun e w' => e = .returned (.tuple #[.int .i64 (min ((py * dx + dy * (c * s - px)) / (dx * s)) (-(-(py * dx + dy * (c * s + s - px)) / (dx * s)) - 1)), .int .i64 (max ((py * dx + dy * (c * s - px)) / (dx * s)) (-(-(py * dx + dy * (c * s + s - px)) / (dx * s)) - 1))]) ∧ Fr [] w w' := by
  have w1 := wr (x := px) (by omega)
  have w2 := wr (x := py) (by omega)
  have w3 := wr (x := qx) (by omega)
  have w4 := wr (x := qy) (by omega)
  have w5 : IntKind.i64.wrap (qx - px) = dx := (wr (by omega)).trans hdx
  have w6 : IntKind.i64.wrap (qy - py) = dy := (wr (by omega)).trans hdy
  have w7 := wr (x := c * s) (by omega)
  have w8 := wr (x := c * s + s) (by omega)
  have w9 := wr (x := py * dx) (by have := (num_bd (t := 0) h1 h2 h3.2 (by omega)).1; omega)
  have w10 := wr (x := dx * s) (by have := den_bd h3.1 h3.2 h5.1 h5.2; omega)
  have z0 : (dx == 0) = false := by rw [beq_eq_false_iff_ne]; omega
  have HX := downed py s h5.1 h5.2 (by unfold I32; omega)
  have HY := downed qy s h5.1 h5.2 (by unfold I32; omega)
  have v1 := wr (x := c * s - px) (by omega)
  have v2 := wr (x := dy * (c * s - px)) (by have := (num_bd (t := c * s - px) h1 h2 h3.2 (by omega)).2.1; omega)
  have v3 := wr (x := py * dx + dy * (c * s - px)) (by have := (num_bd (t := c * s - px) h1 h2 h3.2 (by omega)).2.2; omega)
  have H1 := Lib.hid (fun w => down_lat w (py := py) (dx := dx) (dy := dy) (s := s) (t := c * s - px) h1 h2 h3 (by omega) h5)
  have u1 := wr (x := c * s + s - px) (by omega)
  have u2 := wr (x := dy * (c * s + s - px)) (by have := (num_bd (t := c * s + s - px) h1 h2 h3.2 (by omega)).2.1; omega)
  have u3 := wr (x := py * dx + dy * (c * s + s - px)) (by have := (num_bd (t := c * s + s - px) h1 h2 h3.2 (by omega)).2.2; omega)
  have H2 := Lib.hid (fun w => down_lat w (py := py) (dx := dx) (dy := dy) (s := s) (t := c * s + s - px) h1 h2 h3 (by omega) h5)
  have H3 := Lib.hid (fun w => up_lat w (py := py) (dx := dx) (dy := dy) (s := s) (t := c * s + s - px) h1 h2 h3 (by omega) h5)
  have u4 := wr (x := -(-(py * dx + dy * (c * s + s - px)) / (dx * s)) - 1) (by
    obtain ⟨c1, c2, c3⟩ := num_bd (t := c * s + s - px) h1 h2 h3.2 (by omega)
    have hd := den_bd h3.1 h3.2 h5.1 h5.2
    have := ediv_bd (-(py * dx + dy * (c * s + s - px))) (dx * s) 4611686018427387904 (by omega) (by omega) (by omega) (by omega)
    omega)
  clear h1 h2 h3 h5 hc h0 hq hdx hdy 
  unfold pt
  go_enter Try.func36, Try.ntmps36
  go_wp2_with fail
  (with_reducible refine (HX.on _).mono ?_)
  rintro e w1 ⟨rfl, rfl⟩
  go_wp2_with fail
  (with_reducible refine (H1.out _).mono ?_)
  rintro e w1 ⟨rfl, rfl⟩
  go_wp2_with fail
  (with_reducible refine (HY.on _).mono ?_)
  rintro e w1 ⟨rfl, rfl⟩
  go_wp2_with fail
  (with_reducible refine (H2.out _).mono ?_)
  rintro e w1 ⟨rfl, rfl⟩
  go_wp2_with fail
  (with_reducible refine (H3.out _).mono ?_)
  rintro e w1 ⟨rfl, rfl⟩
  go_wp2_with fail
  all_goals
    go_ret2
    exact ⟨ret_two (by omega) (by omega), ((Fr.refl _ _).alloc _).alloc _⟩

set_option maxHeartbeats 1000000 in
theorem col_13 (w : World) (px py qx qy dx dy s c : Int) (hdx : qx - px = dx) (hdy : qy - py = dy) (h0 : -1073741823 ≤ px ∧ px ≤ 1073741823) (h1 : -1073741823 ≤ py ∧ py ≤ 1073741823) (h2 : -1073741823 ≤ py + dy ∧ py + dy ≤ 1073741823) (h3 : 1 ≤ dx ∧ dx ≤ 2147483646) (h5 : 1 ≤ s ∧ s ≤ 2147483648)
    (hq : -1073741823 ≤ qx ∧ qx ≤ 1073741823) (hc : px - s < c * s ∧ c * s ≤ qx) (hA : px < c * s) (hL : c * s + s ≤ qx) (hD : dy = 0) :
    Calls Try.prog 36 #[pt px py, pt qx qy, .int .i64 s, .int .i64 c] w fun e w' => e = .returned (.tuple #[.int .i64 (min ((py * dx + dy * (c * s - px)) / (dx * s)) ((py * dx + dy * (c * s - px)) / (dx * s))), .int .i64 (max ((py * dx + dy * (c * s - px)) / (dx * s)) ((py * dx + dy * (c * s - px)) / (dx * s)))]) ∧ Fr [] w w' := by
  have w1 := wr (x := px) (by omega)
  have w2 := wr (x := py) (by omega)
  have w3 := wr (x := qx) (by omega)
  have w4 := wr (x := qy) (by omega)
  have w5 : IntKind.i64.wrap (qx - px) = dx := (wr (by omega)).trans hdx
  have w6 : IntKind.i64.wrap (qy - py) = dy := (wr (by omega)).trans hdy
  have w7 := wr (x := c * s) (by omega)
  have w8 := wr (x := c * s + s) (by omega)
  have w9 := wr (x := py * dx) (by have := (num_bd (t := 0) h1 h2 h3.2 (by omega)).1; omega)
  have w10 := wr (x := dx * s) (by have := den_bd h3.1 h3.2 h5.1 h5.2; omega)
  have z0 : (dx == 0) = false := by rw [beq_eq_false_iff_ne]; omega
  have HX := downed py s h5.1 h5.2 (by unfold I32; omega)
  have HY := downed qy s h5.1 h5.2 (by unfold I32; omega)
  have v1 := wr (x := c * s - px) (by omega)
  have v2 := wr (x := dy * (c * s - px)) (by have := (num_bd (t := c * s - px) h1 h2 h3.2 (by omega)).2.1; omega)
  have v3 := wr (x := py * dx + dy * (c * s - px)) (by have := (num_bd (t := c * s - px) h1 h2 h3.2 (by omega)).2.2; omega)
  have H1 := Lib.hid (fun w => down_lat w (py := py) (dx := dx) (dy := dy) (s := s) (t := c * s - px) h1 h2 h3 (by omega) h5)
  have u1 := wr (x := c * s + s - px) (by omega)
  have u2 := wr (x := dy * (c * s + s - px)) (by have := (num_bd (t := c * s + s - px) h1 h2 h3.2 (by omega)).2.1; omega)
  have u3 := wr (x := py * dx + dy * (c * s + s - px)) (by have := (num_bd (t := c * s + s - px) h1 h2 h3.2 (by omega)).2.2; omega)
  have H2 := Lib.hid (fun w => down_lat w (py := py) (dx := dx) (dy := dy) (s := s) (t := c * s + s - px) h1 h2 h3 (by omega) h5)
  have z1 : (dy == 0) = true := by rw [beq_iff_eq]; exact hD
  have z2 : ¬ 0 < dy := by omega
  clear h1 h2 h3 h5 hc h0 hq hdx hdy hD
  unfold pt
  go_enter Try.func36, Try.ntmps36
  go_wp2_with fail
  (with_reducible refine (HX.on _).mono ?_)
  rintro e w1 ⟨rfl, rfl⟩
  go_wp2_with fail
  (with_reducible refine (H1.out _).mono ?_)
  rintro e w1 ⟨rfl, rfl⟩
  go_wp2_with fail
  (with_reducible refine (HY.on _).mono ?_)
  rintro e w1 ⟨rfl, rfl⟩
  go_wp2_with fail
  (with_reducible refine (H2.out _).mono ?_)
  rintro e w1 ⟨rfl, rfl⟩
  go_wp2_with fail
  all_goals
    go_ret2
    exact ⟨ret_two (by omega) (by omega), ((Fr.refl _ _).alloc _).alloc _⟩

set_option maxHeartbeats 1000000 in
theorem col_14 (w : World) (px py qx qy dx dy s c : Int) (hdx : qx - px = dx) (hdy : qy - py = dy) (h0 : -1073741823 ≤ px ∧ px ≤ 1073741823) (h1 : -1073741823 ≤ py ∧ py ≤ 1073741823) (h2 : -1073741823 ≤ py + dy ∧ py + dy ≤ 1073741823) (h3 : 1 ≤ dx ∧ dx ≤ 2147483646) (h5 : 1 ≤ s ∧ s ≤ 2147483648)
    (hq : -1073741823 ≤ qx ∧ qx ≤ 1073741823) (hc : px - s < c * s ∧ c * s ≤ qx) (hA : px < c * s) (hL : c * s + s ≤ qx) (hD : dy < 0) :
    Calls Try.prog 36 #[pt px py, pt qx qy, .int .i64 s, .int .i64 c] w fun e w' => e = .returned (.tuple #[.int .i64 (min ((py * dx + dy * (c * s - px)) / (dx * s)) ((py * dx + dy * (c * s + s - px)) / (dx * s))), .int .i64 (max ((py * dx + dy * (c * s - px)) / (dx * s)) ((py * dx + dy * (c * s + s - px)) / (dx * s)))]) ∧ Fr [] w w' := by
  have w1 := wr (x := px) (by omega)
  have w2 := wr (x := py) (by omega)
  have w3 := wr (x := qx) (by omega)
  have w4 := wr (x := qy) (by omega)
  have w5 : IntKind.i64.wrap (qx - px) = dx := (wr (by omega)).trans hdx
  have w6 : IntKind.i64.wrap (qy - py) = dy := (wr (by omega)).trans hdy
  have w7 := wr (x := c * s) (by omega)
  have w8 := wr (x := c * s + s) (by omega)
  have w9 := wr (x := py * dx) (by have := (num_bd (t := 0) h1 h2 h3.2 (by omega)).1; omega)
  have w10 := wr (x := dx * s) (by have := den_bd h3.1 h3.2 h5.1 h5.2; omega)
  have z0 : (dx == 0) = false := by rw [beq_eq_false_iff_ne]; omega
  have HX := downed py s h5.1 h5.2 (by unfold I32; omega)
  have HY := downed qy s h5.1 h5.2 (by unfold I32; omega)
  have v1 := wr (x := c * s - px) (by omega)
  have v2 := wr (x := dy * (c * s - px)) (by have := (num_bd (t := c * s - px) h1 h2 h3.2 (by omega)).2.1; omega)
  have v3 := wr (x := py * dx + dy * (c * s - px)) (by have := (num_bd (t := c * s - px) h1 h2 h3.2 (by omega)).2.2; omega)
  have H1 := Lib.hid (fun w => down_lat w (py := py) (dx := dx) (dy := dy) (s := s) (t := c * s - px) h1 h2 h3 (by omega) h5)
  have u1 := wr (x := c * s + s - px) (by omega)
  have u2 := wr (x := dy * (c * s + s - px)) (by have := (num_bd (t := c * s + s - px) h1 h2 h3.2 (by omega)).2.1; omega)
  have u3 := wr (x := py * dx + dy * (c * s + s - px)) (by have := (num_bd (t := c * s + s - px) h1 h2 h3.2 (by omega)).2.2; omega)
  have H2 := Lib.hid (fun w => down_lat w (py := py) (dx := dx) (dy := dy) (s := s) (t := c * s + s - px) h1 h2 h3 (by omega) h5)
  have z1 : (dy == 0) = false := by rw [beq_eq_false_iff_ne]; omega
  have z2 : ¬ 0 < dy := by omega
  clear h1 h2 h3 h5 hc h0 hq hdx hdy hD
  unfold pt
  go_enter Try.func36, Try.ntmps36
  go_wp2_with fail
  (with_reducible refine (HX.on _).mono ?_)
  rintro e w1 ⟨rfl, rfl⟩
  go_wp2_with fail
  (with_reducible refine (H1.out _).mono ?_)
  rintro e w1 ⟨rfl, rfl⟩
  go_wp2_with fail
  (with_reducible refine (HY.on _).mono ?_)
  rintro e w1 ⟨rfl, rfl⟩
  go_wp2_with fail
  (with_reducible refine (H2.out _).mono ?_)
  rintro e w1 ⟨rfl, rfl⟩
  go_wp2_with fail
  all_goals
    go_ret2
    exact ⟨ret_two (by omega) (by omega), ((Fr.refl _ _).alloc _).alloc _⟩

set_option maxHeartbeats 1000000 in
theorem col_20 (w : World) (px py qx qy dx dy s c : Int) (hdx : qx - px = dx) (hdy : qy - py = dy) (h0 : -1073741823 ≤ px ∧ px ≤ 1073741823) (h1 : -1073741823 ≤ py ∧ py ≤ 1073741823) (h2 : -1073741823 ≤ py + dy ∧ py + dy ≤ 1073741823) (h3 : 1 ≤ dx ∧ dx ≤ 2147483646) (h5 : 1 ≤ s ∧ s ≤ 2147483648)
    (hq : -1073741823 ≤ qx ∧ qx ≤ 1073741823) (hc : px - s < c * s ∧ c * s ≤ qx) (hA : ¬ px < c * s) (hL : ¬ c * s + s ≤ qx) :
    Calls Try.prog 36 #[pt px py, pt qx qy, .int .i64 s, .int .i64 c] w fun e w' => e = .returned (.tuple #[.int .i64 (min (py / s) (qy / s)), .int .i64 (max (py / s) (qy / s))]) ∧ Fr [] w w' := by
  have w1 := wr (x := px) (by omega)
  have w2 := wr (x := py) (by omega)
  have w3 := wr (x := qx) (by omega)
  have w4 := wr (x := qy) (by omega)
  have w5 : IntKind.i64.wrap (qx - px) = dx := (wr (by omega)).trans hdx
  have w6 : IntKind.i64.wrap (qy - py) = dy := (wr (by omega)).trans hdy
  have w7 := wr (x := c * s) (by omega)
  have w8 := wr (x := c * s + s) (by omega)
  have w9 := wr (x := py * dx) (by have := (num_bd (t := 0) h1 h2 h3.2 (by omega)).1; omega)
  have w10 := wr (x := dx * s) (by have := den_bd h3.1 h3.2 h5.1 h5.2; omega)
  have z0 : (dx == 0) = false := by rw [beq_eq_false_iff_ne]; omega
  have HX := downed py s h5.1 h5.2 (by unfold I32; omega)
  have HY := downed qy s h5.1 h5.2 (by unfold I32; omega)
  clear h1 h2 h3 h5 hc h0 hq hdx hdy 
  unfold pt
  go_enter Try.func36, Try.ntmps36
  go_wp2_with fail
  (with_reducible refine (HX.on _).mono ?_)
  rintro e w1 ⟨rfl, rfl⟩
  go_wp2_with fail
  (with_reducible refine (HY.on _).mono ?_)
  rintro e w1 ⟨rfl, rfl⟩
  go_wp2_with fail
  all_goals
    go_ret2
    exact ⟨ret_two (by omega) (by omega), ((Fr.refl _ _).alloc _).alloc _⟩

set_option maxHeartbeats 1000000 in
theorem col_22 (w : World) (px py qx qy dx dy s c : Int) (hdx : qx - px = dx) (hdy : qy - py = dy) (h0 : -1073741823 ≤ px ∧ px ≤ 1073741823) (h1 : -1073741823 ≤ py ∧ py ≤ 1073741823) (h2 : -1073741823 ≤ py + dy ∧ py + dy ≤ 1073741823) (h3 : 1 ≤ dx ∧ dx ≤ 2147483646) (h5 : 1 ≤ s ∧ s ≤ 2147483648)
    (hq : -1073741823 ≤ qx ∧ qx ≤ 1073741823) (hc : px - s < c * s ∧ c * s ≤ qx) (hA : ¬ px < c * s) (hL : c * s + s ≤ qx) (hD : 0 < dy) :
    Calls Try.prog 36 #[pt px py, pt qx qy, .int .i64 s, .int .i64 c] w fun e w' => e = .returned (.tuple #[.int .i64 (min (py / s) (-(-(py * dx + dy * (c * s + s - px)) / (dx * s)) - 1)), .int .i64 (max (py / s) (-(-(py * dx + dy * (c * s + s - px)) / (dx * s)) - 1))]) ∧ Fr [] w w' := by
  have w1 := wr (x := px) (by omega)
  have w2 := wr (x := py) (by omega)
  have w3 := wr (x := qx) (by omega)
  have w4 := wr (x := qy) (by omega)
  have w5 : IntKind.i64.wrap (qx - px) = dx := (wr (by omega)).trans hdx
  have w6 : IntKind.i64.wrap (qy - py) = dy := (wr (by omega)).trans hdy
  have w7 := wr (x := c * s) (by omega)
  have w8 := wr (x := c * s + s) (by omega)
  have w9 := wr (x := py * dx) (by have := (num_bd (t := 0) h1 h2 h3.2 (by omega)).1; omega)
  have w10 := wr (x := dx * s) (by have := den_bd h3.1 h3.2 h5.1 h5.2; omega)
  have z0 : (dx == 0) = false := by rw [beq_eq_false_iff_ne]; omega
  have HX := downed py s h5.1 h5.2 (by unfold I32; omega)
  have HY := downed qy s h5.1 h5.2 (by unfold I32; omega)
  have u1 := wr (x := c * s + s - px) (by omega)
  have u2 := wr (x := dy * (c * s + s - px)) (by have := (num_bd (t := c * s + s - px) h1 h2 h3.2 (by omega)).2.1; omega)
  have u3 := wr (x := py * dx + dy * (c * s + s - px)) (by have := (num_bd (t := c * s + s - px) h1 h2 h3.2 (by omega)).2.2; omega)
  have H2 := Lib.hid (fun w => down_lat w (py := py) (dx := dx) (dy := dy) (s := s) (t := c * s + s - px) h1 h2 h3 (by omega) h5)
  have H3 := Lib.hid (fun w => up_lat w (py := py) (dx := dx) (dy := dy) (s := s) (t := c * s + s - px) h1 h2 h3 (by omega) h5)
  have u4 := wr (x := -(-(py * dx + dy * (c * s + s - px)) / (dx * s)) - 1) (by
    obtain ⟨c1, c2, c3⟩ := num_bd (t := c * s + s - px) h1 h2 h3.2 (by omega)
    have hd := den_bd h3.1 h3.2 h5.1 h5.2
    have := ediv_bd (-(py * dx + dy * (c * s + s - px))) (dx * s) 4611686018427387904 (by omega) (by omega) (by omega) (by omega)
    omega)
  clear h1 h2 h3 h5 hc h0 hq hdx hdy 
  unfold pt
  go_enter Try.func36, Try.ntmps36
  go_wp2_with fail
  (with_reducible refine (HX.on _).mono ?_)
  rintro e w1 ⟨rfl, rfl⟩
  go_wp2_with fail
  (with_reducible refine (HY.on _).mono ?_)
  rintro e w1 ⟨rfl, rfl⟩
  go_wp2_with fail
  (with_reducible refine (H2.out _).mono ?_)
  rintro e w1 ⟨rfl, rfl⟩
  go_wp2_with fail
  (with_reducible refine (H3.out _).mono ?_)
  rintro e w1 ⟨rfl, rfl⟩
  go_wp2_with fail
  all_goals
    go_ret2
    exact ⟨ret_two (by omega) (by omega), ((Fr.refl _ _).alloc _).alloc _⟩

set_option maxHeartbeats 1000000 in
theorem col_23 (w : World) (px py qx qy dx dy s c : Int) (hdx : qx - px = dx) (hdy : qy - py = dy) (h0 : -1073741823 ≤ px ∧ px ≤ 1073741823) (h1 : -1073741823 ≤ py ∧ py ≤ 1073741823) (h2 : -1073741823 ≤ py + dy ∧ py + dy ≤ 1073741823) (h3 : 1 ≤ dx ∧ dx ≤ 2147483646) (h5 : 1 ≤ s ∧ s ≤ 2147483648)
    (hq : -1073741823 ≤ qx ∧ qx ≤ 1073741823) (hc : px - s < c * s ∧ c * s ≤ qx) (hA : ¬ px < c * s) (hL : c * s + s ≤ qx) (hD : dy = 0) :
    Calls Try.prog 36 #[pt px py, pt qx qy, .int .i64 s, .int .i64 c] w fun e w' => e = .returned (.tuple #[.int .i64 (min (py / s) (py / s)), .int .i64 (max (py / s) (py / s))]) ∧ Fr [] w w' := by
  have w1 := wr (x := px) (by omega)
  have w2 := wr (x := py) (by omega)
  have w3 := wr (x := qx) (by omega)
  have w4 := wr (x := qy) (by omega)
  have w5 : IntKind.i64.wrap (qx - px) = dx := (wr (by omega)).trans hdx
  have w6 : IntKind.i64.wrap (qy - py) = dy := (wr (by omega)).trans hdy
  have w7 := wr (x := c * s) (by omega)
  have w8 := wr (x := c * s + s) (by omega)
  have w9 := wr (x := py * dx) (by have := (num_bd (t := 0) h1 h2 h3.2 (by omega)).1; omega)
  have w10 := wr (x := dx * s) (by have := den_bd h3.1 h3.2 h5.1 h5.2; omega)
  have z0 : (dx == 0) = false := by rw [beq_eq_false_iff_ne]; omega
  have HX := downed py s h5.1 h5.2 (by unfold I32; omega)
  have HY := downed qy s h5.1 h5.2 (by unfold I32; omega)
  have u1 := wr (x := c * s + s - px) (by omega)
  have u2 := wr (x := dy * (c * s + s - px)) (by have := (num_bd (t := c * s + s - px) h1 h2 h3.2 (by omega)).2.1; omega)
  have u3 := wr (x := py * dx + dy * (c * s + s - px)) (by have := (num_bd (t := c * s + s - px) h1 h2 h3.2 (by omega)).2.2; omega)
  have H2 := Lib.hid (fun w => down_lat w (py := py) (dx := dx) (dy := dy) (s := s) (t := c * s + s - px) h1 h2 h3 (by omega) h5)
  have z1 : (dy == 0) = true := by rw [beq_iff_eq]; exact hD
  have z2 : ¬ 0 < dy := by omega
  clear h1 h2 h3 h5 hc h0 hq hdx hdy hD
  unfold pt
  go_enter Try.func36, Try.ntmps36
  go_wp2_with fail
  (with_reducible refine (HX.on _).mono ?_)
  rintro e w1 ⟨rfl, rfl⟩
  go_wp2_with fail
  (with_reducible refine (HY.on _).mono ?_)
  rintro e w1 ⟨rfl, rfl⟩
  go_wp2_with fail
  (with_reducible refine (H2.out _).mono ?_)
  rintro e w1 ⟨rfl, rfl⟩
  go_wp2_with fail
  all_goals
    go_ret2
    exact ⟨ret_two (by omega) (by omega), ((Fr.refl _ _).alloc _).alloc _⟩

set_option maxHeartbeats 1000000 in
theorem col_24 (w : World) (px py qx qy dx dy s c : Int) (hdx : qx - px = dx) (hdy : qy - py = dy) (h0 : -1073741823 ≤ px ∧ px ≤ 1073741823) (h1 : -1073741823 ≤ py ∧ py ≤ 1073741823) (h2 : -1073741823 ≤ py + dy ∧ py + dy ≤ 1073741823) (h3 : 1 ≤ dx ∧ dx ≤ 2147483646) (h5 : 1 ≤ s ∧ s ≤ 2147483648)
    (hq : -1073741823 ≤ qx ∧ qx ≤ 1073741823) (hc : px - s < c * s ∧ c * s ≤ qx) (hA : ¬ px < c * s) (hL : c * s + s ≤ qx) (hD : dy < 0) :
    Calls Try.prog 36 #[pt px py, pt qx qy, .int .i64 s, .int .i64 c] w fun e w' => e = .returned (.tuple #[.int .i64 (min (py / s) ((py * dx + dy * (c * s + s - px)) / (dx * s))), .int .i64 (max (py / s) ((py * dx + dy * (c * s + s - px)) / (dx * s)))]) ∧ Fr [] w w' := by
  have w1 := wr (x := px) (by omega)
  have w2 := wr (x := py) (by omega)
  have w3 := wr (x := qx) (by omega)
  have w4 := wr (x := qy) (by omega)
  have w5 : IntKind.i64.wrap (qx - px) = dx := (wr (by omega)).trans hdx
  have w6 : IntKind.i64.wrap (qy - py) = dy := (wr (by omega)).trans hdy
  have w7 := wr (x := c * s) (by omega)
  have w8 := wr (x := c * s + s) (by omega)
  have w9 := wr (x := py * dx) (by have := (num_bd (t := 0) h1 h2 h3.2 (by omega)).1; omega)
  have w10 := wr (x := dx * s) (by have := den_bd h3.1 h3.2 h5.1 h5.2; omega)
  have z0 : (dx == 0) = false := by rw [beq_eq_false_iff_ne]; omega
  have HX := downed py s h5.1 h5.2 (by unfold I32; omega)
  have HY := downed qy s h5.1 h5.2 (by unfold I32; omega)
  have u1 := wr (x := c * s + s - px) (by omega)
  have u2 := wr (x := dy * (c * s + s - px)) (by have := (num_bd (t := c * s + s - px) h1 h2 h3.2 (by omega)).2.1; omega)
  have u3 := wr (x := py * dx + dy * (c * s + s - px)) (by have := (num_bd (t := c * s + s - px) h1 h2 h3.2 (by omega)).2.2; omega)
  have H2 := Lib.hid (fun w => down_lat w (py := py) (dx := dx) (dy := dy) (s := s) (t := c * s + s - px) h1 h2 h3 (by omega) h5)
  have z1 : (dy == 0) = false := by rw [beq_eq_false_iff_ne]; omega
  have z2 : ¬ 0 < dy := by omega
  clear h1 h2 h3 h5 hc h0 hq hdx hdy hD
  unfold pt
  go_enter Try.func36, Try.ntmps36
  go_wp2_with fail
  (with_reducible refine (HX.on _).mono ?_)
  rintro e w1 ⟨rfl, rfl⟩
  go_wp2_with fail
  (with_reducible refine (HY.on _).mono ?_)
  rintro e w1 ⟨rfl, rfl⟩
  go_wp2_with fail
  (with_reducible refine (H2.out _).mono ?_)
  rintro e w1 ⟨rfl, rfl⟩
  go_wp2_with fail
  all_goals
    go_ret2
    exact ⟨ret_two (by omega) (by omega), ((Fr.refl _ _).alloc _).alloc _⟩

end Go.Proofs.Ythagbhiblncpkaa
