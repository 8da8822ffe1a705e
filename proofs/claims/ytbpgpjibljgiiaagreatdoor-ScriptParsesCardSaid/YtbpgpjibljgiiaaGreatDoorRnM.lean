/-
  Script, the document: a number as a text. Printed by genRn.py.
  Script, plain: how the document reads a number's text.
-/
import Derived.Test.YtbpgpjibljgiiaaGreatDoorNumP
import Derived.Test.YtbpgpjibljgiiaaGreatDoorChkA
import Derived.Test.YtbpgpjibljgiiaaGreatDoorPlnA
import Derived.Deep.Cut
import Derived.Laws.BytesArg
import Derived.Shelf.Bytes.SlSmallAll
namespace Go.Proofs.YtbpgpjibljgiiaaGreatDoor
open Go.RowKit
set_option linter.unusedVariables false
set_option linter.unusedSimpArgs false
attribute [local go_sem] Oper.semAt_some
/-- A slice of one byte, in memory of its own. -/
def Stab.slot1 (z : Int) : Stab := ⟨fun u W => ∃ g, u = .slice (some ⟨g, 0, none⟩) 1 1 ∧ Blk W g #[.int .u8 z] 5, fun _ _ _ f ⟨g, h1, h2⟩ => ⟨g, h1, f.blk h2 (by simp)⟩⟩
namespace Sc
open Lib (decDigits itoa)
def numT (n : Int) : ByteArray := ⟨(itoa n).toArray⟩
theorem conv_rd (W : World) (v : Value) (l : List Int) (h : Rd W v (u8s l)) : (convert 62 9 v).run Tryz.prog W = .ok (.string (strOfNums l)) W := by
  obtain ⟨p, c, rfl, hc, h0⟩ := h
  have hl : (u8s l).length = l.length := by simp [u8s]
  rw [hl] at h0 hc ⊢
  rcases h0 with h0 | ⟨g, o, rfl, h0⟩
  · have : l = [] := List.length_eq_zero_iff.1 h0
    subst this
    exact run_convert_bytes_zero W 62 5 Tryz.underlying62 Tryz.underlying5 p c 9 Tryz.underlying9
  · refine run_convert_bytes_arg W 62 5 Tryz.underlying62 Tryz.underlying5 g o l.length c l rfl (fun i hi => ?_) 9 Tryz.underlying9
    exact h0 i _ (by simp [u8s, List.getD_eq_getElem?_getD, hi])
theorem conv_one (W : World) (g : Nat) (z : Int) (h : Blk W g #[.int .u8 z] 5) : (convert 62 9 (.slice (some ⟨g, 0, none⟩) 1 1)).run Tryz.prog W = .ok (.string (strOfNums [z])) W :=
  conv_rd W _ [z] ⟨_, _, rfl, Nat.le_refl _, .inr ⟨g, 0, rfl, fun k u hk => by
    match k, hk with
    | 0, hk => simp [u8s] at hk; subst hk; exact h.at 0 rfl
    | k + 1, hk => simp [u8s] at hk⟩⟩
theorem numT_one {n : Int} (h0 : 0 ≤ n) (h : n < 10) : strOfNums [48 + n] = numT n := by
  unfold numT itoa strOfNums
  rw [if_neg (by omega), dd_small (by omega)]
  simp only [List.map_cons, List.map_nil]
  rw [show (48 + n).toNat = 48 + n.toNat by omega]
theorem numT_add (n : Int) (h : 10 ≤ n) : numT (n / 10) ++ strOfNums [48 + n % 10] = numT n := by
  unfold numT itoa strOfNums
  rw [if_neg (by omega), if_neg (by omega), dd_big (u := n.toNat) (by omega)]
  apply ByteArray.ext
  rw [ByteArray.data_append]
  simp only [List.map_cons, List.map_nil]
  rw [show (48 + n % 10).toNat = 48 + n.toNat % 10 by omega, show (n / 10).toNat = n.toNat / 10 by omega]
  simp
theorem numT_neg {n : Int} (h : n < 0) : (⟨#[45]⟩ : ByteArray) ++ numT (-n) = numT n := by
  unfold numT itoa
  rw [if_neg (by omega), if_pos h]
  apply ByteArray.ext
  rw [ByteArray.data_append, show (-n).toNat = n.natAbs by omega]
  simp
theorem dd_len : ∀ (k u : Nat), u < 10 ^ (k + 1) → (decDigits u).length ≤ k + 1
  | 0, u, h => by rw [dd_small (by simpa using h)]; simp
  | k + 1, u, h => by
    by_cases hu : u < 10
    · rw [dd_small hu]; simp
    · rw [dd_big hu, List.length_append, List.length_singleton]
      have := dd_len k (u / 10) (by rw [Nat.pow_succ] at h; omega)
      omega
theorem numT_short (n : Int) (h0 : -9223372036854775808 ≤ n) (h1 : n ≤ 9223372036854775807) : (numT n).size ≤ 20 := by
  have : (numT n).size = (itoa n).length := by simp [numT, ByteArray.size]
  rw [this]
  unfold itoa
  split
  · have := dd_len 18 n.natAbs (by omega)
    simp; omega
  · have := dd_len 18 n.toNat (by omega)
    omega
set_option maxRecDepth 100000 in
set_option maxHeartbeats 4000000 in
theorem number_pos : ∀ (k : Nat) (n : Int), 0 ≤ n → n.toNat ≤ k → n ≤ 9223372036854775807 → ∀ w : World, Calls Tryz.prog 64 #[.int .i64 n] w fun e w' => e = .returned (.string (numT n)) ∧ Fr [] w w' := by
  intro k
  induction k using Nat.strongRecOn with
  | _ k ih =>
    intro n h0 hk h1 w
    have d1 : decide (n < 0) = false := decide_eq_false (by omega)
    have l0 : ¬ n < 0 := by omega
    by_cases hn : n < 10
    · have cv := conv_one (w.alloc (.cells #[.int .u8 (48 + n)] 5)) w.heap.size (48 + n) (Blk.new _ _ _)
      rw [numT_one h0 hn] at cv
      have e1 : (48 + n) % 256 = 48 + n := by omega
      clear ih hk
      go_enter Tryz.func64, Tryz.ntmps64
      go_wp2
      go_ret
      exact ⟨rfl, (Fr.refl _ _).alloc _⟩
    · have hn10 : 10 ≤ n := by omega
      have ih := Lib.hid (fun (m : Int) (q0 : 0 ≤ m) (q1 : m.toNat < n.toNat) (q2 : m ≤ 9223372036854775807) (W : World) => ih m.toNat (by omega) m q0 (Nat.le_refl _) q2 W)
      have q1 : IntKind.i64.wrap (n.tdiv 10) = n / 10 := by rw [Int.tdiv_eq_ediv_of_nonneg h0, IntKind.wrap_i64]; omega
      have q2 : n.tmod 10 = n % 10 := Int.tmod_eq_emod_of_nonneg h0
      have q3 : IntKind.i64.wrap (48 + n % 10) = 48 + n % 10 := by rw [IntKind.wrap_i64]; omega
      have q4 : IntKind.u8.wrap (48 + n % 10) = 48 + n % 10 := by rw [IntKind.wrap_u8]; omega
      clear hk
      go_enter Tryz.func64, Tryz.ntmps64
      go_wp2_with fail
      refine region_grow (by kernel_rfl) (by kernel_rfl) [.is (.int .i64 n), .is (.int .i64 (n / 10)), .is (.string (numT (n / 10))), .is (.int .i64 n), .is (.int .i64 (n % 10)), .is (.int .i64 (48 + n % 10)), .is (.int .u8 (48 + n % 10)), .slot1 (48 + n % 10), .is (.string (strOfNums [48 + n % 10])), .is (.string (numT n)), .is (.string (numT n))] 28 rfl (by kernel_rfl) [(0, 18), (1, 19), (2, 20), (3, 21), (4, 22), (5, 23), (6, 24), (7, 25), (8, 26), (9, 27), (10, 2)] (by kernel_rfl) ?_ ?_
      · intro q a1 W1 i hi hnq hd hG K hK
        have hlt : i < 11 := hi
        have hc : i = 0 ∨ i = 1 ∨ i = 2 ∨ i = 3 ∨ i = 4 ∨ i = 5 ∨ i = 6 ∨ i = 7 ∨ i = 8 ∨ i = 9 ∨ i = 10 := by omega
        rcases hc with rfl | rfl | rfl | rfl | rfl | rfl | rfl | rfl | rfl | rfl | rfl
        · have e0 := hG.old 0 (by kernel_rfl)
          refine op_do rfl (wanted_none rfl) hK (fun K' hK' => ?_)
          unfold Oper.wp
          go_simp
          exact hK' _ _ (Fr.refl _ _) rfl
        · have e18 := hG.val (v := .int .i64 n) 0 18 (hd _ rfl ⟨0, .data⟩ (by simp) rfl) rfl rfl
          refine op_do rfl (wanted_none rfl) hK (fun K' hK' => ?_)
          unfold Oper.wp
          go_simp
          exact hK' _ _ (Fr.refl _ _) rfl
        · have e19 := hG.val (v := .int .i64 (n / 10)) 1 19 (hd _ rfl ⟨1, .data⟩ (by simp) rfl) rfl rfl
          refine op_do rfl (wanted_none rfl) hK (fun K' hK' => ?_)
          unfold Oper.wp
          go_simp
          refine (ih.out (n / 10) (by omega) (by omega) (by omega) W1).mono ?_
          rintro e W2 ⟨rfl, hf⟩
          exact hK' _ _ hf rfl
        · have e0 := hG.old 0 (by kernel_rfl)
          refine op_do rfl (wanted_none rfl) hK (fun K' hK' => ?_)
          unfold Oper.wp
          go_simp
          exact hK' _ _ (Fr.refl _ _) rfl
        · have e21 := hG.val (v := .int .i64 n) 3 21 (hd _ rfl ⟨3, .data⟩ (by simp) rfl) rfl rfl
          refine op_do rfl (wanted_none rfl) hK (fun K' hK' => ?_)
          unfold Oper.wp
          go_simp
          exact hK' _ _ (Fr.refl _ _) rfl
        · have e22 := hG.val (v := .int .i64 (n % 10)) 4 22 (hd _ rfl ⟨4, .data⟩ (by simp) rfl) rfl rfl
          refine op_do rfl (wanted_none rfl) hK (fun K' hK' => ?_)
          unfold Oper.wp
          go_simp
          exact hK' _ _ (Fr.refl _ _) rfl
        · have e23 := hG.val (v := .int .i64 (48 + n % 10)) 5 23 (hd _ rfl ⟨5, .data⟩ (by simp) rfl) rfl rfl
          refine op_do rfl (wanted_none rfl) hK (fun K' hK' => ?_)
          unfold Oper.wp
          go_simp
          exact hK' _ _ (Fr.refl _ _) rfl
        · have e24 := hG.val (v := .int .u8 (48 + n % 10)) 6 24 (hd _ rfl ⟨6, .data⟩ (by simp) rfl) rfl rfl
          refine op_do rfl (wanted_none rfl) hK (fun K' hK' => ?_)
          unfold Oper.wp
          go_simp
          exact hK' _ _ ((Fr.refl _ _).alloc _) ⟨_, rfl, Blk.new _ _ _⟩
        · obtain ⟨u7, e25, s7⟩ := hG.get 7 25 (hd _ rfl ⟨7, .data⟩ (by simp) rfl) rfl
          obtain ⟨g7, rfl, hb7⟩ := s7
          have cv := conv_one W1 g7 (48 + n % 10) hb7
          refine op_do rfl (wanted_none rfl) hK (fun K' hK' => ?_)
          unfold Oper.wp
          go_simp
          exact hK' _ _ (Fr.refl _ _) rfl
        · have e20 := hG.val (v := .string (numT (n / 10))) 2 20 (hd _ rfl ⟨2, .data⟩ (by simp) rfl) rfl rfl
          have e26 := hG.val (v := .string (strOfNums [48 + n % 10])) 8 26 (hd _ rfl ⟨8, .data⟩ (by simp) rfl) rfl rfl
          have ha := numT_add n hn10
          have hlen := numT_short (n / 10) (by omega) (by omega)
          refine op_do rfl (wanted_none rfl) hK (fun K' hK' => ?_)
          unfold Oper.wp
          go_simp
          rw [if_neg (by rw [strOfNums_size]; simp only [List.length_cons, List.length_nil]; omega)]
          go_simp
          exact hK' _ _ (Fr.refl _ _) rfl
        · have e27 := hG.val (v := .string (numT n)) 9 27 (hd _ rfl ⟨9, .data⟩ (by simp) rfl) rfl rfl
          refine op_do rfl (wanted_none rfl) hK (fun K' hK' => ?_)
          unfold Oper.wp
          go_simp
          exact hK' _ _ (Fr.refl _ _) rfl
      · intro vs W1 f1 hv
        have r0 : vs 0 = .int .i64 n := hv 0 18 (by decide) rfl
        have r1 : vs 1 = .int .i64 (n / 10) := hv 1 19 (by decide) rfl
        have r2 : vs 2 = .string (numT (n / 10)) := hv 2 20 (by decide) rfl
        have r3 : vs 3 = .int .i64 n := hv 3 21 (by decide) rfl
        have r4 : vs 4 = .int .i64 (n % 10) := hv 4 22 (by decide) rfl
        have r5 : vs 5 = .int .i64 (48 + n % 10) := hv 5 23 (by decide) rfl
        have r6 : vs 6 = .int .u8 (48 + n % 10) := hv 6 24 (by decide) rfl
        have r7 := hv 7 25 (by decide) rfl
        have r8 : vs 8 = .string (strOfNums [48 + n % 10]) := hv 8 26 (by decide) rfl
        have r9 : vs 9 = .string (numT n) := hv 9 27 (by decide) rfl
        have r10 : vs 10 = .string (numT n) := hv 10 2 (by decide) rfl
        simp only [lay, List.foldl_cons, List.foldl_nil, r0, r1, r2, r3, r4, r5, r6, r8, r9, r10]
        simp only [List.setIfInBounds_toArray, List.set_cons_zero, List.set_cons_succ]
        clear hv r0 r1 r2 r3 r4 r5 r6 r8 r9 r10
        generalize vs 7 = x7 at *
        go_wp2
        go_ret
        exact ⟨rfl, f1⟩
end Sc
end Go.Proofs.YtbpgpjibljgiiaaGreatDoor
namespace Go.Proofs.YtbpgpjibljgiiaaGreatDoor
set_option linter.unusedVariables false
set_option linter.unusedSimpArgs false
namespace Sc
open Lib (decDigits itoa)
def evalD : Nat → List UInt8 → Option Nat
  | a, [] => some a
  | a, c :: l => if c.toNat < 48 ∨ 57 < c.toNat then none else evalD (10 * a + (c.toNat - 48)) l
theorem evalD_app (c : UInt8) : ∀ (l : List UInt8) (a : Nat), evalD a (l ++ [c]) = (evalD a l).bind fun b => if c.toNat < 48 ∨ 57 < c.toNat then none else some (10 * b + (c.toNat - 48))
  | [], a => by simp [evalD]
  | x :: l, a => by
    rw [List.cons_append, evalD, evalD]
    split
    · rfl
    · exact evalD_app c l _
theorem evalD_dd : ∀ (u : Nat), evalD 0 (decDigits u) = some u := by
  intro u
  induction u using Nat.strongRecOn with
  | _ u ih =>
    by_cases h : u < 10
    · rw [dd_small h, evalD, dg_nat h, if_neg (by omega), evalD]
      simp
    · rw [dd_big h, evalD_app, ih (u / 10) (by omega), Option.bind_some, dg_nat (by omega), if_neg (by omega)]
      congr 1
      omega
/-- What stands behind the sign. -/
def signOff (l : List UInt8) : List UInt8 := match l with
  | 45 :: r => r
  | _ => l
def isNeg (l : List UInt8) : Bool := match l with
  | 45 :: _ => true
  | _ => false
theorem sign_itoa {x : Int} : isNeg (itoa x) = decide (x < 0) ∧ signOff (itoa x) = decDigits x.natAbs := by
  unfold itoa
  by_cases h : x < 0
  · rw [if_pos h]
    exact ⟨(decide_eq_true h).symm, rfl⟩
  · rw [if_neg h, show x.toNat = x.natAbs by omega]
    constructor
    · rw [decide_eq_false h]
      unfold isNeg
      split
      · rename_i r hr
        exact absurd hr dd_not45
      · rfl
    · unfold signOff
      split
      · rename_i r hr
        exact absurd hr dd_not45
      · rfl
theorem scan_bad_len {l : List UInt8} (h : (signOff l).length = 0 ∨ 19 < (signOff l).length) : scan l = none := by
  cases hs : scan l with
  | none => rfl
  | some x =>
    exfalso
    obtain ⟨h1, h2, h3⟩ := scan_is hs
    rw [h1, sign_itoa.2] at h
    have h4 := dd_len 18 x.natAbs (by omega)
    have h5 := List.length_pos_iff.2 (dd_ne x.natAbs)
    omega
theorem scan_bad_eval {l : List UInt8} (h : evalD 0 (signOff l) = none) : scan l = none := by
  cases hs : scan l with
  | none => rfl
  | some x =>
    exfalso
    obtain ⟨h1, h2, h3⟩ := scan_is hs
    rw [h1, sign_itoa.2, evalD_dd] at h
    cases h
/-- The value that is held against the text. -/
theorem whole_law {l : List UInt8} {n : Nat} {v : Int} (he : evalD 0 (signOff l) = some n) (h0 : -9223372036854775808 ≤ v) (h1 : v ≤ 9223372036854775807)
    (hp : isNeg l = false → n < 9223372036854775808 → v = n) (hm : isNeg l = true → n ≤ 9223372036854775808 → v = -(n : Int)) :
    decide (numT v = ⟨l.toArray⟩) = (scan l).isSome ∧ ∀ x, scan l = some x → v = x := by
  have key : ∀ x, scan l = some x → v = x := fun x hs => by
    obtain ⟨q1, q2, q3⟩ := scan_is hs
    rw [q1, sign_itoa.2, evalD_dd] at he
    obtain rfl : x.natAbs = n := by simpa using he
    rw [q1, sign_itoa.1] at hp hm
    by_cases hx : x < 0
    · have := hm (decide_eq_true hx) (by omega); omega
    · have := hp (decide_eq_false hx) (by omega); omega
  refine ⟨?_, key⟩
  cases hs : scan l with
  | none =>
    refine decide_eq_false fun e => ?_
    have : itoa v = l := by
      have := congrArg (fun b : ByteArray => b.data.toList) e
      simpa [numT] using this
    rw [← this, scan_itoa h0 h1] at hs
    cases hs
  | some x =>
    rw [Option.isSome_some]
    have := key x hs
    subst this
    obtain ⟨q1, -, -⟩ := scan_is hs
    refine decide_eq_true ?_
    unfold numT
    rw [← q1]
end Sc
end Go.Proofs.YtbpgpjibljgiiaaGreatDoor
