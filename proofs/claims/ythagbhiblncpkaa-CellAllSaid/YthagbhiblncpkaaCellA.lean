/-
  The small functions of package cell and of its reference, each by a contract.
-/
import Derived.Test.YthagbhiblncpkaaRead
import Derived.Test.YthagbhiblncpkaaRows
import Derived.StillTailTactics
import Derived.Deep.RegionHeld3
namespace Go.Proofs.Ythagbhiblncpkaa
open Go.RowKit
set_option linter.unusedVariables false

/-- 'wp_region_still_tail', the world by its name. -/
theorem region_tail {P : Program} {id : Nat} {Q : Exit → Act → World → Prop} {a : Act} {w : World} {l : List Oper} (n : Nat) (hm : P.follows .mixedOrders = true) (hB : Region.lexTailB .any l.toArray n = true)
    (h : wpStill P l.toArray w.drew (fun a' => wpList P l.toArray Q (l.drop n) a' w.drew) (l.take n) a) : (Code.region id l.toArray true).wp P Q a w :=
  wp_region_still_tail n hm hB h

/-- Division rounded down is Lean's own, above nought. -/
theorem floor_eq (n d : Int) (h : 0 < d) : n / d = if n.tmod d < 0 then n.tdiv d - 1 else n.tdiv d := by
  have e1 := Int.mul_tdiv_add_tmod n d
  have e2 := Int.mul_ediv_add_emod n d
  have b1 := Int.emod_nonneg n (show d ≠ 0 by omega)
  have b2 := Int.emod_lt_of_pos n h
  rcases Int.le_total 0 n with hn | hn
  · have := Int.tmod_nonneg d hn
    rw [if_neg (by omega)]
    exact (Int.tdiv_eq_ediv_of_nonneg hn).symm
  · have c1 : n.tmod d ≤ 0 := by
      have := Int.tmod_nonneg d (show 0 ≤ -n by omega)
      rw [Int.neg_tmod] at this
      omega
    have c2 : -d < n.tmod d := by
      have := Int.tmod_lt_of_pos (-n) h
      rw [Int.neg_tmod] at this
      omega
    split
    · rename_i h1
      have : d * (n / d) + n % d = d * (n.tdiv d - 1) + (n.tmod d + d) := by rw [Int.mul_sub]; omega
      have h3 := (Int.ediv_emod_unique h (a := n) (q := n.tdiv d - 1) (r := n.tmod d + d)).2 ⟨by rw [Int.mul_sub]; omega, by omega, by omega⟩
      exact h3.1
    · rename_i h1
      have h3 := (Int.ediv_emod_unique h (a := n) (q := n.tdiv d) (r := n.tmod d)).2 ⟨by omega, by omega, by omega⟩
      exact h3.1

theorem ediv_bd (n d B : Int) (h : 0 < d) (hB : 0 ≤ B) (h1 : -B ≤ n) (h2 : n ≤ B) : -B ≤ n / d ∧ n / d ≤ B := by
  constructor
  · rw [Int.le_ediv_iff_mul_le h]
    have : -B * d ≤ -B * 1 := by
      have := Int.mul_le_mul_of_nonneg_left (show (1 : Int) ≤ d by omega) hB
      rw [Int.neg_mul, Int.neg_mul]
      omega
    omega
  · have := Int.ediv_le_ediv h h2
    have h3 : B / d ≤ B := Int.ediv_le_self d hB
    omega

theorem tdiv_bd (n d B : Int) (h : 1 ≤ d) (hB : 0 ≤ B) (h1 : -B ≤ n) (h2 : n ≤ B) : -B ≤ n.tdiv d ∧ n.tdiv d ≤ B := by
  rcases Int.le_total 0 n with hn | hn
  · have h3 := ediv_bd n d B (by omega) hB h1 h2
    rw [Int.tdiv_eq_ediv_of_nonneg hn]
    exact h3
  · have h3 := ediv_bd (-n) d B (by omega) hB (by omega) (by omega)
    have h4 : (-n).tdiv d = (-n) / d := Int.tdiv_eq_ediv_of_nonneg (by omega)
    rw [Int.neg_tdiv] at h4
    omega

set_option maxHeartbeats 1000000 in
theorem floor_any (w : World) (n d : Int) (h : 1 ≤ d) (h1 : -4611686018427387904 ≤ n) (h2 : n ≤ 4611686018427387904) (hd : d ≤ 4611686018427387904) :
    Calls Try.prog 43 #[.int .i64 n, .int .i64 d] w fun e w' => e = .returned (.int .i64 (n / d)) ∧ w = w' := by
  have hf := floor_eq n d (by omega)
  obtain ⟨b1, b2⟩ := tdiv_bd n d 4611686018427387904 h (by omega) h1 h2
  have hz : (d == 0) = false := by rw [beq_eq_false_iff_ne]; omega
  have HF := Lib.hid hf
  clear hf
  by_cases hm : n.tmod d < 0
  · go_enter Try.func43, Try.ntmps43
    go_wp2
    go_ret
    exact ⟨ret_int (by rw [HF.out, if_pos hm]), rfl⟩
  · go_enter Try.func43, Try.ntmps43
    go_wp2
    go_ret
    exact ⟨ret_int (by rw [HF.out, if_neg (by omega)]), rfl⟩

theorem i32_div {x s : Int} (hx : -2147483648 ≤ x ∧ x ≤ 2147483647) (h : 1 ≤ s) : IntKind.i32.wrap (x / s) = x / s := by
  rcases Int.le_total 0 x with h0 | h0
  · have := ediv_bd x s 2147483647 (by omega) (by omega) (by omega) hx.2
    rw [IntKind.wrap_i32]; omega
  · have := ediv_bd x s 2147483648 (by omega) (by omega) (by omega) (by omega)
    have h3 : x / s ≤ 0 := by
      have := Int.ediv_le_ediv (c := s) (by omega) h0
      simpa using this
    rw [IntKind.wrap_i32]; omega

/-- A point as a value. -/
abbrev pt (x y : Int) : Value := .agg #[.int .i32 x, .int .i32 y]
/-- What int32 holds; the lattice. -/
def I32 (x : Int) : Prop := -2147483648 ≤ x ∧ x ≤ 2147483647
def inB (x y : Int) : Bool := decide (-1073741823 ≤ x ∧ x ≤ 1073741823 ∧ -1073741823 ≤ y ∧ y ≤ 1073741823)
def fits (s : Int) : Bool := decide (1 ≤ s ∧ s ≤ 2147483648)

theorem isSize_any (w : World) (s : Int) : Calls Try.prog 31 #[.int .i64 s] w fun e w' => e = .returned (.bool (fits s)) ∧ w = w' := by
  by_cases h1 : 1 ≤ s
  · by_cases h2 : s ≤ 2147483648
    · have H := Lib.hid (show fits s = true from decide_eq_true ⟨h1, h2⟩)
      go_enter Try.func31, Try.ntmps31
      go_wp2
      go_ret
      exact ⟨ret_bool H.out.symm, rfl⟩
    · have H := Lib.hid (show fits s = false from decide_eq_false (by omega))
      go_enter Try.func31, Try.ntmps31
      go_wp2
      go_ret
      exact ⟨ret_bool H.out.symm, rfl⟩
  · have H := Lib.hid (show fits s = false from decide_eq_false (by omega))
    go_enter Try.func31, Try.ntmps31
    go_wp2
    go_ret
    exact ⟨ret_bool H.out.symm, rfl⟩

/-- .. as an operation of a region wants it. -/
def Floored (x s : Int) : Prop := ∀ w, Calls Try.prog 43 #[.int .i64 x, .int .i64 s] w fun e w' => e = .returned (.int .i64 (x / s)) ∧ w' = w
theorem floored (x s : Int) (h1 : 1 ≤ s) (h2 : s ≤ 2147483648) (hx : I32 x) : Floored x s := by
  obtain ⟨x1, x2⟩ := hx
  intro w
  exact (floor_any w x s h1 (by omega) (by omega) (by omega)).mono fun _ _ h => ⟨h.1, h.2.symm⟩

theorem Floored.on {x s : Int} (h : Floored x s) (w : World) : Calls Try.prog 43 #[.int .i64 x, .int .i64 s] w fun e w' => e = .returned (.int .i64 (x / s)) ∧ w' = w := h w

theorem of_any (w : World) (x y s : Int) (hx : I32 x) (hy : I32 y) (h1 : 1 ≤ s) (h2 : s ≤ 2147483648) :
    Calls Try.prog 33 #[pt x y, .int .i64 s] w fun e w' => e = .returned (pt (x / s) (y / s)) ∧ Fr [] w w' := by
  obtain ⟨ux, uy⟩ : IntKind.i32.wrap (x / s) = x / s ∧ IntKind.i32.wrap (y / s) = y / s := ⟨i32_div hx h1, i32_div hy h1⟩
  obtain ⟨x1, x2⟩ := hx
  obtain ⟨y1, y2⟩ := hy
  have wx : IntKind.i64.wrap x = x := by rw [IntKind.wrap_i64]; omega
  have wy : IntKind.i64.wrap y = y := by rw [IntKind.wrap_i64]; omega
  have HX := floored x s h1 h2 ⟨x1, x2⟩
  have HY := floored y s h1 h2 ⟨y1, y2⟩
  unfold pt
  go_enter Try.func33, Try.ntmps33
  go_wp2
  refine region_tail 13 (by kernel_rfl) (by kernel_rfl) ?_
  simp only [List.take_succ_cons, List.take_zero, List.drop_succ_cons, List.drop_zero]
  iterate 4 still_step
  (refine wpStill_step (fun K hK => ?_); go_simp; (with_reducible refine ⟨_, HX.on _, hK _ ?_⟩); clear hK K)
  iterate 5 still_step
  (refine wpStill_step (fun K hK => ?_); go_simp; (with_reducible refine ⟨_, HY.on _, hK _ ?_⟩); clear hK K)
  iterate 2 still_step
  refine wpStill_nil ?_
  go_wp2
  refine bodyPost_ret (v := .agg #[.int .i32 (x / s), .int .i32 (y / s)]) (by simp [results, Try.results33, go_sem]) rfl ⟨rfl, (((Fr.refl _ _).alloc _).alloc _).drew⟩

theorem down_any (w : World) (n d : Int) (h : 1 ≤ d) (h1 : -4611686018427387904 ≤ n) (h2 : n ≤ 4611686018427387904) (hd : d ≤ 4611686018427387904) :
    Calls Try.prog 35 #[.int .i64 n, .int .i64 d] w fun e w' => e = .returned (.int .i64 (n / d)) ∧ w = w' := by
  have hf := floor_eq n d (by omega)
  obtain ⟨b1, b2⟩ := tdiv_bd n d 4611686018427387904 h (by omega) h1 h2
  have hz : (d == 0) = false := by rw [beq_eq_false_iff_ne]; omega
  have e1 := Int.mul_tdiv_add_tmod n d
  have c1 : n.tmod d < d ∧ -d < n.tmod d := by
    refine ⟨Int.tmod_lt_of_pos n (by omega), ?_⟩
    have := Int.tmod_lt_of_pos (-n) (show 0 < d by omega)
    rw [Int.neg_tmod] at this
    omega
  have e2 : n.tdiv d * d = n - n.tmod d := by rw [Int.mul_comm]; omega
  have hw : IntKind.i64.wrap (n.tdiv d * d) = n.tdiv d * d := by rw [IntKind.wrap_i64]; omega
  have HF := Lib.hid hf
  clear hf
  have hm' : decide (n < n.tdiv d * d) = decide (n.tmod d < 0) := by rw [e2]; congr 1; apply propext; omega
  have HE := Lib.hid e2
  clear e2 e1
  by_cases hm : n.tmod d < 0
  · have hm1 : n < n.tdiv d * d := by simpa [hm] using hm'
    clear hm' c1
    go_enter Try.func35, Try.ntmps35
    go_wp2
    go_ret
    exact ⟨ret_int (by rw [HF.out, if_pos hm]), rfl⟩
  · have hm1 : ¬ n < n.tdiv d * d := by simpa [hm] using hm'
    clear hm' c1
    go_enter Try.func35, Try.ntmps35
    go_wp2
    go_ret
    exact ⟨ret_int (by rw [HF.out, if_neg (by omega)]), rfl⟩

theorem up_any (w : World) (n d : Int) (h : 1 ≤ d) (h1 : -4611686018427387904 ≤ n) (h2 : n ≤ 4611686018427387904) (hd : d ≤ 4611686018427387904) :
    Calls Try.prog 45 #[.int .i64 n, .int .i64 d] w fun e w' => e = .returned (.int .i64 (-(-n / d))) ∧ w = w' := by
  obtain ⟨b1, b2⟩ := ediv_bd (-n) d 4611686018427387904 (by omega) (by omega) (by omega) (by omega)
  have hw : IntKind.i64.wrap (-n) = -n := by rw [IntKind.wrap_i64]; omega
  have hw2 : IntKind.i64.wrap (-(-n / d)) = -(-n / d) := by rw [IntKind.wrap_i64]; omega
  go_enter Try.func45, Try.ntmps45
  go_wp2_with fail
  (with_reducible refine (down_any _ _ _ ?_ ?_ ?_ ?_).mono ?_)
  · omega
  · omega
  · omega
  · omega
  rintro e w1 ⟨rfl, rfl⟩
  go_wp2
  go_ret
  exact ⟨rfl, rfl⟩

theorem fits_any (w : World) (s : Int) : Calls Try.prog 24 #[.int .i64 s] w fun e w' => e = .returned (.bool (fits s)) ∧ w = w' := by
  by_cases h1 : 1 ≤ s
  · by_cases h2 : s ≤ 2147483648
    · have H := Lib.hid (show fits s = true from decide_eq_true ⟨h1, h2⟩)
      go_enter Try.func24, Try.ntmps24
      go_wp2
      go_ret
      exact ⟨ret_bool H.out.symm, rfl⟩
    · have H := Lib.hid (show fits s = false from decide_eq_false (by omega))
      go_enter Try.func24, Try.ntmps24
      go_wp2
      go_ret
      exact ⟨ret_bool H.out.symm, rfl⟩
  · have H := Lib.hid (show fits s = false from decide_eq_false (by omega))
    go_enter Try.func24, Try.ntmps24
    go_wp2
    go_ret
    exact ⟨ret_bool H.out.symm, rfl⟩

end Go.Proofs.Ythagbhiblncpkaa
