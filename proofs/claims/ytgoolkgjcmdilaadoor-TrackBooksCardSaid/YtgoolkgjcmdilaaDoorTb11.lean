/-
  Tb, part 11 of 36: the texts BitC InvIn.
-/
import Derived.Lib.Zigzag
import Derived.OrdersIn
import Derived.Test.YtgoolkgjcmdilaaDoorTb7
import Derived.Test.YtgoolkgjcmdilaaDoorTb10
section
namespace Go.Proofs.YtgoolkgjcmdilaaDoor
open Go.RowKit
set_option linter.unusedVariables false
set_option linter.unusedSimpArgs false
attribute [local go_sem] Oper.semAt_some
/-- The least bit that is set. -/
structure Low (x t : Nat) : Prop where
  here : x.testBit t = true
  below : ∀ j, j < t → x.testBit j = false
theorem Low.odd {x t : Nat} (h : Low x t) : ∃ m, x = 2 ^ t * (2 * m + 1) := by
  have h1 : x / 2 ^ t % 2 = 1 := by have := h.here; rw [Nat.testBit_eq_decide_div_mod_eq] at this; simpa using this
  have h2 : x % 2 ^ t = 0 := by
    apply Nat.eq_of_testBit_eq
    intro j
    rw [Nat.testBit_mod_two_pow, Nat.zero_testBit]
    by_cases hj : j < t
    · rw [h.below j hj, Bool.and_false]
    · simp [hj]
  refine ⟨x / 2 ^ t / 2, ?_⟩
  have h3 := Nat.div_add_mod x (2 ^ t)
  have h4 := Nat.div_add_mod (x / 2 ^ t) 2
  rw [h1] at h4
  rw [h4, ← h3, h2, Nat.add_zero, Nat.mul_div_cancel_left _ (Nat.two_pow_pos t)]
theorem Low.pred {x t : Nat} (h : Low x t) (i : Nat) : (x.testBit i && !(x - 1).testBit i) = decide (i = t) := by
  obtain ⟨m, hm⟩ := h.odd
  have hp := Nat.two_pow_pos t
  rcases Nat.lt_trichotomy i t with hi | rfl | hi
  · rw [h.below i hi, decide_eq_false (by omega)]; rfl
  · have e : (x - 1).testBit i = false := by
      rw [Nat.testBit_eq_decide_div_mod_eq]
      have : x - 1 = 2 ^ i * (2 * m) + (2 ^ i - 1) := by rw [hm, Nat.mul_add]; omega
      rw [this, Nat.mul_add_div hp, Nat.div_eq_of_lt (by omega)]
      simp
    rw [h.here, e]; simp
  · have e : (x - 1).testBit i = x.testBit i := by
      rw [Nat.testBit_eq_decide_div_mod_eq, Nat.testBit_eq_decide_div_mod_eq]
      have hs : 2 ^ i = 2 ^ (t + 1) * 2 ^ (i - (t + 1)) := by rw [← Nat.pow_add]; congr 1; omega
      rw [hs, ← Nat.div_div_eq_div_mul, ← Nat.div_div_eq_div_mul]
      have e1 : x / 2 ^ (t + 1) = m := by
        rw [hm, Nat.pow_succ, ← Nat.div_div_eq_div_mul, Nat.mul_div_cancel_left _ hp]; omega
      have e2 : (x - 1) / 2 ^ (t + 1) = m := by
        have : x - 1 = 2 ^ t * (2 * m) + (2 ^ t - 1) := by rw [hm, Nat.mul_add]; omega
        rw [this, Nat.pow_succ, ← Nat.div_div_eq_div_mul, Nat.mul_add_div hp, Nat.div_eq_of_lt (by omega : 2 ^ t - 1 < 2 ^ t)]
        omega
      rw [e1, e2]
    rw [e, decide_eq_false (by omega)]; cases x.testBit i <;> rfl
theorem Low.lt {x t : Nat} (h : Low x t) (hx : x < 18446744073709551616) : t < 64 := by
  rcases Nat.lt_or_ge t 64 with h1 | h1
  · exact h1
  · have : x.testBit t = false := Nat.testBit_lt_two_pow (Nat.lt_of_lt_of_le (show x < 2 ^ 64 by omega) (Nat.pow_le_pow_right (by decide) h1))
    rw [h.here] at this; cases this
theorem Low.neg {x t : Nat} (h : Low x t) (hx : x < 18446744073709551616) : bits BinOp.and IntKind.u64 (x : Int) (IntKind.u64.wrap (-(x : Int))) = ((2 ^ t : Nat) : Int) := by
  have h0 : 0 < x := by
    rcases Nat.eq_zero_or_pos x with e | e
    · have := h.here; rw [e, Nat.zero_testBit] at this; cases this
    · exact e
  have e1 : IntKind.u64.wrap (-(x : Int)) = ((18446744073709551616 - x : Nat) : Int) := by rw [IntKind.wrap_u64]; omega
  rw [e1, bits_and_u64_nat _ _ hx (by omega)]
  congr 1
  apply Nat.eq_of_testBit_eq
  intro i
  have ht := h.lt hx
  have e2 : 18446744073709551616 - x = 2 ^ 64 - ((x - 1) + 1) := by omega
  rw [Nat.testBit_and, e2, Nat.testBit_two_pow_sub_succ (by omega), Nat.testBit_two_pow]
  have hp := h.pred i
  by_cases hi : i < 64
  · rw [decide_eq_true hi, Bool.true_and, hp]
    rw [Bool.eq_iff_iff]; simp; omega
  · rw [decide_eq_false hi, Bool.false_and, Bool.and_false, decide_eq_false (by omega)]
/-- The table of Go's trailing noughts. -/
def deB : List Nat := [0, 1, 56, 2, 57, 49, 28, 3, 61, 58, 42, 50, 38, 29, 17, 4, 62, 47, 59, 36, 45, 43, 51, 22, 53, 39, 33, 30, 24, 18, 12, 5, 63, 55, 48, 27, 60, 41, 37, 16, 46, 35, 44, 21, 52, 32, 23, 11, 54, 26, 40, 15, 34, 20, 31, 10, 25, 14, 19, 9, 13, 8, 7, 6]
def DeB (W : World) : Prop := ∀ h, h < 64 → W.cell? ⟨1, h, none⟩ = some (.int .u8 (deB.getD h 0 : Nat))
def spot (t : Nat) : Nat := 2 ^ t * 285870213051353865 % 18446744073709551616 / 288230376151711744
theorem spot_all : (List.range 64).all (fun t => decide (spot t < 64) && decide (deB.getD (spot t) 0 = t)) = true := by decide +kernel
theorem spot_ok {t : Nat} (h : t < 64) : spot t < 64 ∧ deB.getD (spot t) 0 = t := by
  have := List.all_eq_true.1 spot_all t (List.mem_range.2 h)
  simpa using this
theorem spot_term (t : Nat) : IntKind.u64.wrap (2 ^ t * 285870213051353865) / 288230376151711744 = ((spot t : Nat) : Int) := by
  have e : ((2 : Int) ^ t) = ((2 ^ t : Nat) : Int) := by rw [Int.natCast_pow]; rfl
  unfold spot
  rw [e]
  generalize 2 ^ t = y
  rw [IntKind.wrap_u64]
  omega
theorem tz_any (w : World) (x t : Nat) (hx : x < 18446744073709551616) (h : Low x t) (hT : DeB w) : Calls Tryd.prog 132 #[.int .u64 (x : Nat)] w fun e w' => e = .returned (.int .i64 (t : Nat)) ∧ w = w' := by
  have ht := h.lt hx
  obtain ⟨h1, h2⟩ := spot_ok ht
  have c0 := hT _ h1
  rw [h2] at c0
  have hn := h.neg hx
  have h0 : ¬ ((x : Int) = 0) := by
    intro e
    have := h.here
    rw [show x = 0 by omega, Nat.zero_testBit] at this; cases this
  have es := spot_term t
  obtain ⟨z, hz⟩ : ∃ z, z = spot t := ⟨_, rfl⟩
  rw [← hz] at es c0 h1
  have g0 : (0 : Int) ≤ (z : Int) := Int.natCast_nonneg z
  have g1 : (z : Int) < 64 := by omega
  have g2 : (t : Int) < 64 := by omega
  clear hT h h2 hz
  go_enter Tryd.func132, Tryd.ntmps132
  go_wp2_with fail
  go_ret
  exact ⟨by first | rfl | simp, rfl⟩
theorem d64 (i : Nat) : (i : Int) / 64 = ((i / 64 : Nat) : Int) := rfl
/-- The word that first looks at. -/
def yw (x : Nat) (c : Bool) : Nat := if c then x else 18446744073709551615 - x
theorem yw_lt {x : Nat} (hx : x < 18446744073709551616) (c : Bool) : yw x c < 18446744073709551616 := by unfold yw; split <;> omega
theorem yw_bit {x : Nat} (hx : x < 18446744073709551616) (c : Bool) {j : Nat} (hj : j < 64) : (yw x c).testBit j = (x.testBit j == c) := by
  unfold yw
  cases c with
  | true => simp
  | false =>
    rw [if_neg (by decide), show 18446744073709551615 - x = 2 ^ 64 - (x + 1) by omega, Nat.testBit_two_pow_sub_succ (by omega), decide_eq_true hj]
    simp
theorem xor_term {x : Nat} (hx : x < 18446744073709551616) : bits BinOp.xor IntKind.u64 IntKind.u64.max (x : Int) = ((yw x false : Nat) : Int) := by
  have h := bits_xor_u64_nat 18446744073709551615 x (by decide) hx
  rw [show (IntKind.u64.max : Int) = ((18446744073709551615 : Nat) : Int) from rfl, h]
  congr 1
  have h2 := Lib.xor_ones64 x (by omega)
  simp only [yw]
  exact h2
theorem or63 (i : Nat) : i ||| 63 = i / 64 * 64 + 63 := by
  apply Nat.eq_of_testBit_eq
  intro j
  rw [Nat.testBit_or, show i / 64 * 64 + 63 = 2 ^ 6 * (i / 64) + 63 by omega, Nat.testBit_two_pow_mul_add _ (by decide), show (63 : Nat) = 2 ^ 6 - 1 by decide, Nat.testBit_two_pow_sub_one]
  by_cases hj : j < 6
  · simp [hj]
  · rw [decide_eq_false hj, Bool.or_false, if_neg hj, show (64 : Nat) = 2 ^ 6 by decide, Nat.testBit_div_two_pow]
    congr 1; omega
theorem or_term63 {i : Nat} (hi : i ≤ 65536) : bits BinOp.or IntKind.i64 (i : Int) 63 = ((i / 64 * 64 + 63 : Nat) : Int) := by
  have h1 : (BitVec.ofInt 64 (i : Int)).toNat = i := by
    rw [BitVec.ofInt_natCast, BitVec.toNat_ofNat]; exact Nat.mod_eq_of_lt (by omega)
  have h2 : (BitVec.ofInt 64 (63 : Int)).toNat = 63 := by decide
  show IntKind.i64.wrap ((BitVec.ofInt 64 (i : Int) ||| BitVec.ofInt 64 (63 : Int)).toNat : Int) = _
  rw [BitVec.toNat_or, h1, h2, or63, wr (by omega)]
/-- Where a word has no bit from a place on. -/
theorem none_bit {y r : Nat} (h : y / 2 ^ r = 0) (j : Nat) (hj : r ≤ j) : y.testBit j = false := by
  have : (y / 2 ^ r).testBit (j - r) = false := by rw [h, Nat.zero_testBit]
  rw [Nat.testBit_div_two_pow] at this
  rw [show j = j - r + r by omega]
  exact this
theorem low_ex {z : Nat} (h : z ≠ 0) : ∃ t, Low z t := by
  have main : ∀ t, z.testBit t = true → ∃ u, Low z u := by
    intro t
    induction t using Nat.strongRecOn with
    | _ t ih =>
      intro ht
      by_cases hj : ∃ j, j < t ∧ z.testBit j = true
      · obtain ⟨j, h1, h2⟩ := hj
        exact ih j h1 h2
      · refine ⟨t, ht, fun j hlt => ?_⟩
        cases hb : z.testBit j with
        | false => rfl
        | true => exact absurd ⟨j, hlt, hb⟩ hj
  obtain ⟨t, ht⟩ := Nat.exists_testBit_of_ne_zero h
  exact main t ht
theorem div_cast (y r : Nat) : (y : Int) / 2 ^ r = ((y / 2 ^ r : Nat) : Int) := by rw [Int.natCast_ediv, Int.natCast_pow]; rfl
/-- A round of first. -/
structure Look (B : List Bool) (c : Bool) (i y z : Nat) : Prop where
  yl : y < 18446744073709551616
  zd : z = y / 2 ^ (i % 64)
  bit : ∀ j, j < 64 → y.testBit j = (B.getD (i / 64 * 64 + j) false == c)
theorem Look.zl {B : List Bool} {c : Bool} {i y z : Nat} (h : Look B c i y z) : z < 18446744073709551616 := by
  rw [h.zd]; exact Nat.lt_of_le_of_lt (Nat.div_le_self _ _) h.yl
theorem Look.none {B : List Bool} {c : Bool} {i y z : Nat} (h : Look B c i y z) (hz : z = 0) (j : Nat) (h1 : i ≤ j) (h2 : j < i / 64 * 64 + 64) : B.getD j false ≠ c := by
  have hb := h.bit (j - i / 64 * 64) (by omega)
  have hn := none_bit (y := y) (r := i % 64) (by rw [← h.zd]; exact hz) (j - i / 64 * 64) (by omega)
  rw [hn, show i / 64 * 64 + (j - i / 64 * 64) = j by omega] at hb
  intro e
  rw [e] at hb
  simp at hb
theorem Look.here {B : List Bool} {c : Bool} {i y z t : Nat} (h : Look B c i y z) (hl : Low z t) : t + i % 64 < 64 ∧ B.getD (i + t) false = c ∧ ∀ j, i ≤ j → j < i + t → B.getD j false ≠ c := by
  have e : ∀ u, z.testBit u = y.testBit (u + i % 64) := fun u => by rw [h.zd, Nat.testBit_div_two_pow]
  have ht : t + i % 64 < 64 := by
    rcases Nat.lt_or_ge (t + i % 64) 64 with q | q
    · exact q
    · have h1 := hl.here
      rw [e, Nat.testBit_lt_two_pow (Nat.lt_of_lt_of_le (show y < 2 ^ 64 from h.yl) (Nat.pow_le_pow_right (by decide) q))] at h1
      cases h1
  refine ⟨ht, ?_, fun j h1 h2 => ?_⟩
  · have h1 := hl.here
    rw [e, h.bit _ ht, show i / 64 * 64 + (t + i % 64) = i + t by omega] at h1
    simpa using h1
  · have h3 := hl.below (j - i) (by omega)
    rw [e, h.bit _ (by omega), show i / 64 * 64 + (j - i + i % 64) = j by omega] at h3
    intro q
    rw [q] at h3
    simp at h3
theorem BitsAt.look {W : World} {b : Nat} {v : Value} {B : List Bool} {ws : List Nat} (h : BitsAt W b v B ws) (c : Bool) (i : Nat) : Look B c i (yw (ws.getD (i / 64) 0) c) (yw (ws.getD (i / 64) 0) c / 2 ^ (i % 64)) :=
  ⟨yw_lt (h.word _) c, rfl, fun j hj => by rw [yw_bit (h.word _) c hj, h.bits _ j hj]⟩
/-- What first answers, looking from k on. -/
def FirstAt (B : List Bool) (k : Nat) (c : Bool) (a : Int) : Prop :=
  (∃ i : Nat, a = (i : Int) ∧ k ≤ i ∧ i < B.length ∧ B.getD i false = c ∧ ∀ j, k ≤ j → j < i → B.getD j false ≠ c) ∨ (a = -1 ∧ ∀ j, k ≤ j → j < B.length → B.getD j false ≠ c)
def FirstP (w : World) (B : List Bool) (k : Nat) (c : Bool) (e : Ending) (w' : World) : Prop := ∃ a, e = .returned (.int .i64 a) ∧ FirstAt B k c a ∧ w = w'
theorem round_none {B : List Bool} {k i n y : Nat} {c : Bool} (hn : n = B.length) (hki : k ≤ i) (hno : ∀ j, k ≤ j → j < i → j < n → B.getD j false ≠ c) (hL : Look B c i y 0) (hi : i < n) (hn6 : n ≤ 65536) :
    ∃ p, p = i / 64 * 64 + 63 ∧ p ≤ 65599 ∧ k ≤ p + 1 ∧ p + 1 ≤ 4611686018427387968 ∧ (∀ j, k ≤ j → j < p + 1 → j < n → B.getD j false ≠ c) ∧ n - (p + 1) < n - i := by
  refine ⟨i / 64 * 64 + 63, rfl, by omega, by omega, by omega, fun j a1 a2 a3 => ?_, by omega⟩
  rcases Nat.lt_or_ge j i with hj | hj
  · exact hno j a1 hj a3
  · exact hL.none rfl j hj (by omega)
theorem round_some {B : List Bool} {k i n y z t : Nat} {c : Bool} (hn : n = B.length) (hki : k ≤ i) (hno : ∀ j, k ≤ j → j < i → j < n → B.getD j false ≠ c) (hL : Look B c i y z) (hl : Low z t) (hi : i < n) (hn6 : n ≤ 65536) :
    i + t ≤ 65600 ∧ (i + t < n → FirstAt B k c ((i : Int) + (t : Int))) ∧ (¬ i + t < n → FirstAt B k c (-1)) := by
  obtain ⟨h1, h2, h3⟩ := hL.here hl
  refine ⟨by omega, fun h => .inl ⟨i + t, by omega, by omega, by omega, h2, fun j a1 a2 => ?_⟩, fun h => .inr ⟨rfl, fun j a1 a2 => ?_⟩⟩
  · rcases Nat.lt_or_ge j i with hj | hj
    · exact hno j a1 hj (by omega)
    · exact h3 j hj a2
  · rcases Nat.lt_or_ge j i with hj | hj
    · exact hno j a1 hj (by omega)
    · exact h3 j hj (by omega)
theorem div_lt_up {i n : Nat} (h : i < n) : i / 64 < (n + 63) / 64 := by omega
theorem lt_cast {i t n : Nat} (h : i + t < n) : (i : Int) + (t : Int) < (n : Int) := by omega
theorem nlt_cast {i t n : Nat} (h : ¬ i + t < n) : ¬ (i : Int) + (t : Int) < (n : Int) := by omega
theorem nz_cast {z : Nat} (h : z ≠ 0) : ((z : Int) == 0) = false := by rw [beq_eq_false_iff_ne]; omega
set_option maxRecDepth 100000 in
set_option maxHeartbeats 1000000 in
theorem first_pos (w : World) (b : Nat) (v : Value) (B : List Bool) (ws : List Nat) (k : Nat) (c : Bool) (h : BitsAt w b v B ws) (hT : DeB w) (hk63 : k ≤ 4611686018427387904) :
    Calls Tryd.prog 92 #[.pointer (some ⟨b, 0, none⟩), .int .i64 (k : Nat), .bool c] w (FirstP w B k c) := by
  have HH := Lib.hid h
  have HT := Lib.hid hT
  have c0 := h.hd.at 0 (v := .int .i64 B.length) rfl
  obtain ⟨g, cap, rfl, h1, h2, h3, h4, h5⟩ := h.row
  have c1 := h.hd.at 1 (v := .slice (some ⟨g, 0, none⟩) ws.length cap) rfl
  obtain ⟨n, hn⟩ : ∃ n, n = B.length := ⟨_, rfl⟩
  obtain ⟨m, hm⟩ : ∃ m, m = ws.length := ⟨_, rfl⟩
  rw [← hn] at c0
  rw [← hm] at c1
  have H5 := Lib.hid h5
  have HN := Lib.hid (And.intro hn (And.intro hm (show n ≤ 65536 from hn ▸ h.lim)))
  have hk0 : ¬ (k : Int) < 0 := by omega
  clear h h1 h2 h3 h4 h5 hT hn hm
  go_enter Tryd.func92, Tryd.ntmps92
  go_wp2_with fail
  (with_reducible refine (blive_any _ b _ B ws HH.out).mono ?_)
  rintro e w1 ⟨rfl, rfl⟩
  go_wp2_with fail
  go_loopw [7, 8] (fun iw xw wr => ∃ i : Nat, iw = .int .i64 i ∧ k ≤ i ∧ i ≤ 4611686018427387968 ∧ (∀ j, k ≤ j → j < i → j < n → B.getD j false ≠ c) ∧ w = wr) (fun iw _ _ => n - (intOf iw).toNat)
  case atStart => exact ⟨k, by first | rfl | simp, Nat.le_refl _, by omega, fun j a b _ => absurd a (by omega), rfl⟩
  case round =>
    obtain ⟨i, rfl, hki, hi63, hno, rfl⟩ := hrel
    have HNO := Lib.hid (And.intro hki hno)
    clear hki hno
    by_cases hin : i < n
    · have hiB : i < B.length := by rw [← HN.out.1]; exact hin
      have hk : i / 64 < ws.length := by rw [HH.out.len]; exact div_lt_up hiB
      have c2 := H5.out _ hk
      have hxl := HH.out.word (i / 64)
      obtain ⟨q, hq⟩ : ∃ q, q = i / 64 := ⟨_, rfl⟩
      obtain ⟨r, hr⟩ : ∃ r, r = i % 64 := ⟨_, rfl⟩
      have e1 := d64 i
      have e2 := r64 i
      have hr6 : r < 64 := by rw [hr]; exact Nat.mod_lt _ (by decide)
      rw [← hq] at e1 c2 hk hxl
      rw [← hr] at e2
      rw [← HN.out.2.1] at hk
      obtain ⟨x, hx⟩ : ∃ x, x = ws.getD q 0 := ⟨_, rfl⟩
      rw [← hx] at c2 hxl
      have g0 : (0 : Int) ≤ (q : Int) := Int.natCast_nonneg q
      have g1 : (q : Int) < (m : Int) := Int.ofNat_lt.2 hk
      have g2 : (i : Int) < (n : Int) := Int.ofNat_lt.2 hin
      have HX := Lib.hid (And.intro hq (And.intro hr (And.intro hx (And.intro hxl (And.intro hr6 (And.intro hin hiB))))))
      clear hq hr hx hxl hr6 hk hin hiB
      cases c with
      | true =>
        have hlk := HH.out.look true i
        rw [← HX.out.1, ← HX.out.2.2.1] at hlk
        have hxl := HX.out.2.2.2.1
        have ey : yw x true = x := rfl
        rw [ey] at hlk
        have ez := div_cast x (i % 64)
        rw [← HX.out.2.1] at ez
        obtain ⟨z, hz⟩ : ∃ z, z = x / 2 ^ r := ⟨_, rfl⟩
        rw [← HX.out.2.1, ← hz] at hlk
        rw [← hz] at ez
        have HL := Lib.hid hlk
        clear hlk hxl hz
        by_cases hz0 : z = 0
        · subst hz0
          obtain ⟨p, hp, hp6, hx1⟩ := round_none HN.out.1 HNO.out.1 HNO.out.2 HL.out HX.out.2.2.2.2.2.1 HN.out.2.2
          have o63 := or_term63 (i := i) (Nat.le_trans (Nat.le_of_lt HX.out.2.2.2.2.2.1) HN.out.2.2)
          rw [← hp] at o63
          have HPP := Lib.hid hx1
          clear hp hx1
          go_wp2_with fail
          clear o63 ez e1 e2 g0 g1 g2
          obtain ⟨hq1, hq2, hq3, hq4⟩ := HPP.out
          exact ⟨⟨p + 1, by go_num, hq1, hq2, hq3, by first | rfl | trivial⟩, by simpa [intOf] using hq4⟩
        · obtain ⟨t, ht⟩ := low_ex hz0
          have hz1 := nz_cast hz0
          have HTZ := Lib.hid (tz_any w z t HL.out.zl ht HT.out)
          have hh := round_some HN.out.1 HNO.out.1 HNO.out.2 HL.out ht HX.out.2.2.2.2.2.1 HN.out.2.2
          have HR := Lib.hid hh
          have hb := hh.1
          clear hh ht hz0
          go_wp2_with fail
          (with_reducible refine (HTZ.out).mono ?_)
          rintro e w1 ⟨rfl, rfl⟩
          by_cases hit : i + t < n
          · have hit2 := lt_cast hit
            go_wp2_with fail
            go_ret
            exact ⟨_, rfl, HR.out.2.1 hit, rfl⟩
          · have hit2 := nlt_cast hit
            go_wp2_with fail
            go_ret
            exact ⟨_, rfl, HR.out.2.2 hit, rfl⟩
      | false =>
        have hlk := HH.out.look false i
        rw [← HX.out.1, ← HX.out.2.2.1] at hlk
        have hxl := HX.out.2.2.2.1
        have hsg : IntKind.u64.signed = false := rfl
        have hxo := xor_term hxl
        obtain ⟨y, hy⟩ : ∃ y, y = yw x false := ⟨_, rfl⟩
        rw [← hy] at hlk hxo
        clear hy
        have ez := div_cast y (i % 64)
        rw [← HX.out.2.1] at ez
        obtain ⟨z, hz⟩ : ∃ z, z = y / 2 ^ r := ⟨_, rfl⟩
        rw [← HX.out.2.1, ← hz] at hlk
        rw [← hz] at ez
        have HL := Lib.hid hlk
        clear hlk hxl hz
        by_cases hz0 : z = 0
        · subst hz0
          obtain ⟨p, hp, hp6, hx1⟩ := round_none HN.out.1 HNO.out.1 HNO.out.2 HL.out HX.out.2.2.2.2.2.1 HN.out.2.2
          have o63 := or_term63 (i := i) (Nat.le_trans (Nat.le_of_lt HX.out.2.2.2.2.2.1) HN.out.2.2)
          rw [← hp] at o63
          have HPP := Lib.hid hx1
          clear hp hx1
          go_wp2_with fail
          clear o63 ez e1 e2 g0 g1 g2
          obtain ⟨hq1, hq2, hq3, hq4⟩ := HPP.out
          exact ⟨⟨p + 1, by go_num, hq1, hq2, hq3, by first | rfl | trivial⟩, by simpa [intOf] using hq4⟩
        · obtain ⟨t, ht⟩ := low_ex hz0
          have hz1 := nz_cast hz0
          have HTZ := Lib.hid (tz_any w z t HL.out.zl ht HT.out)
          have hh := round_some HN.out.1 HNO.out.1 HNO.out.2 HL.out ht HX.out.2.2.2.2.2.1 HN.out.2.2
          have HR := Lib.hid hh
          have hb := hh.1
          clear hh ht hz0
          go_wp2_with fail
          (with_reducible refine (HTZ.out).mono ?_)
          rintro e w1 ⟨rfl, rfl⟩
          by_cases hit : i + t < n
          · have hit2 := lt_cast hit
            go_wp2_with fail
            go_ret
            exact ⟨_, rfl, HR.out.2.1 hit, rfl⟩
          · have hit2 := nlt_cast hit
            go_wp2_with fail
            go_ret
            exact ⟨_, rfl, HR.out.2.2 hit, rfl⟩
    · have g1 : ¬ (i : Int) < (n : Int) := by omega
      go_wp2_with fail
      go_ret
      exact ⟨-1, rfl, .inr ⟨rfl, fun j a b => HNO.out.2 j a (Nat.lt_of_lt_of_le (HN.out.1 ▸ b) (Nat.le_of_not_lt hin)) (HN.out.1 ▸ b)⟩, rfl⟩
end Go.Proofs.YtgoolkgjcmdilaaDoor
end
section
namespace Go.Proofs.YtgoolkgjcmdilaaDoor
open Go.RowKit
set_option linter.unusedVariables false
section
variable {F : Fence} {n : Nat} {P : Program} {ops : Array Oper} {Q : Exit → Act → World → Prop} {md : Region.Mode}
theorem wpAnyIn_inv {I : Array Bool → Act → World → Prop}
    (hstep : ∀ L a w i, I L a w → L.size = ops.size → i ∈ Region.ready md ops L → wpOpIn F n P ops Q i (I (L.setIfInBounds i true)) a w)
    (hend : ∀ L a w, I L a w → L.size = ops.size → Region.ready md ops L = [] → Q .normal a w) :
    ∀ (fuel : Nat) (L : Array Bool) (a : Act) (w : World), I L a w → L.size = ops.size → todo L ≤ fuel → wpAnyIn F n P md ops Q fuel L a w
  | 0, L, a, w, hI, hs, ht => by
    have hr : Region.ready md ops L = [] := by
      refine List.eq_nil_iff_forall_not_mem.2 fun i hi => ?_
      have := todo_set (mem_ready.1 hi).1
      omega
    exact ⟨hr, hend L a w hI hs hr⟩
  | fuel + 1, L, a, w, hI, hs, ht => by
    refine ⟨fun hr => hend L a w hI hs hr, fun i hi => ?_⟩
    have := todo_set (mem_ready.1 hi).1
    exact wpOpIn_mono (fun a' w' h => wpAnyIn_inv hstep hend fuel _ a' w' h (by simpa using hs) (by omega)) (hstep L a w i hI hs hi)
end
end Go.Proofs.YtgoolkgjcmdilaaDoor
end
