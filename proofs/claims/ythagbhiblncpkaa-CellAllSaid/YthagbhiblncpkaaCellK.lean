/-
  Places of cells on the curve: the program's and the document's.
-/
import Derived.Test.YthagbhiblncpkaaCellJ
import Derived.Test.YthagbhiblncpkaaBits
import Derived.Handy
import Derived.Deep.QuietTactic
import Derived.BigQuiet
namespace Go.Proofs.Ythagbhiblncpkaa
open Go.RowKit Go.Shelf
set_option linter.unusedVariables false

theorem st_lt (a k m : Nat) : st a k m ≤ m := Nat.and_le_right
theorem st_step (a k K m : Nat) (M : Int) (hM : M = (m : Int)) (hK : K = 2 ^ k) (ha : a * K < 18446744073709551616) (ha2 : a < 18446744073709551616) (hm : m < 18446744073709551616) :
    bits .and .u64 (bits .or .u64 (a : Int) (IntKind.u64.wrap ((a : Int) * (K : Int)))) M = ((st a k m : Nat) : Int) := by
  have e : IntKind.u64.wrap ((a : Int) * (K : Int)) = ((a * K : Nat) : Int) := by rw [IntKind.wrap_u64]; omega
  have h3 : a ||| a * K < 18446744073709551616 := Nat.or_lt_two_pow (n := 64) (by omega) (by omega)
  rw [e, bits_or_u64_nat a (a * K) ha2 ha, hM, bits_and_u64_nat _ m h3 hm]
  simp only [st, Nat.shiftLeft_eq, hK]
theorem st_step0 (a k K m : Nat) (M : Int) (hM : M = (m : Int)) (hK : K = 2 ^ k) (ha : a * K < 18446744073709551616) (ha2 : a < 18446744073709551616) (hm : m < 18446744073709551616) :
    bits .and .u64 (bits .or .u64 (a : Int) ((a : Int) * (K : Int))) M = ((st a k m : Nat) : Int) := by
  have e : IntKind.u64.wrap ((a : Int) * (K : Int)) = (a : Int) * (K : Int) := by rw [IntKind.wrap_u64]; omega
  rw [← e]
  exact st_step a k K m M hM hK ha ha2 hm

/-- What the loop reckons. -/
theorem spread_term (u : Nat) (h : u < 4294967296) :
    bits .and .u64 (bits .or .u64 (u : Int) ((u : Int) * 65536)) 281470681808895 = ((st u 16 281470681808895 : Nat) : Int) :=
  st_step0 u 16 65536 _ _ rfl rfl (by omega) (by omega) (by omega)
theorem spread_term8 (a : Nat) (h : a ≤ 281470681808895) :
    bits .and .u64 (bits .or .u64 (a : Int) (IntKind.u64.wrap ((a : Int) * 256))) 71777214294589695 = ((st a 8 71777214294589695 : Nat) : Int) :=
  st_step a 8 256 _ _ rfl rfl (by omega) (by omega) (by omega)
theorem spread_term4 (a : Nat) (h : a ≤ 71777214294589695) :
    bits .and .u64 (bits .or .u64 (a : Int) (IntKind.u64.wrap ((a : Int) * 16))) 1085102592571150095 = ((st a 4 1085102592571150095 : Nat) : Int) :=
  st_step a 4 16 _ _ rfl rfl (by omega) (by omega) (by omega)
theorem spread_term2 (a : Nat) (h : a ≤ 1085102592571150095) :
    bits .and .u64 (bits .or .u64 (a : Int) (IntKind.u64.wrap ((a : Int) * 4))) 3689348814741910323 = ((st a 2 3689348814741910323 : Nat) : Int) :=
  st_step a 2 4 _ _ rfl rfl (by omega) (by omega) (by omega)
theorem spread_term1 (a : Nat) (h : a ≤ 3689348814741910323) :
    bits .and .u64 (bits .or .u64 (a : Int) (IntKind.u64.wrap ((a : Int) * 2))) 6148914691236517205 = ((st a 1 6148914691236517205 : Nat) : Int) :=
  st_step a 1 2 _ _ rfl rfl (by omega) (by omega) (by omega)

set_option maxHeartbeats 1000000 in
theorem spread_any (w : World) (u : Nat) (h : u < 4294967296) : Calls Try.prog 37 #[.int .u32 (u : Int)] w fun e w' => e = .returned (.int .u64 (spr 32 u : Nat)) ∧ w = w' := by
  have hu : (u : Int) ≤ 4294967295 := by omega
  have HU := Lib.hid h
  clear h
  go_enter Try.func37, Try.ntmps37
  go_wp2
  go_rounds 6
  go_ret
  refine ⟨ret_int ?_, rfl⟩
  rw [spread_term u HU.out, spread_term8 _ (st_lt _ _ _), spread_term4 _ (st_lt _ _ _), spread_term2 _ (st_lt _ _ _), spread_term1 _ (st_lt _ _ _), ← sprN_spr 32 (by omega) u HU.out]
  rfl

theorem sd_lt (a k m : Nat) : sd a k m ≤ m := Nat.and_le_right
theorem sd_step (a k K m : Nat) (M : Int) (hM : M = (m : Int)) (hK : K = 2 ^ k) (ha : a < 18446744073709551616) (hm : m < 18446744073709551616) :
    bits .and .u64 (bits .or .u64 (a : Int) ((a : Int) / (K : Int))) M = ((sd a k m : Nat) : Int) := by
  have e : (a : Int) / (K : Int) = ((a / K : Nat) : Int) := by omega
  have h2 : a / K ≤ a := Nat.div_le_self _ _
  have h3 : a ||| a / K < 18446744073709551616 := Nat.or_lt_two_pow (n := 64) (by omega) (by omega)
  rw [e, bits_or_u64_nat a (a / K) ha (by omega), hM, bits_and_u64_nat _ m h3 hm]
  simp only [sd, Nat.shiftRight_eq_div_pow, hK]
theorem gather_term0 (n : Nat) (h : n < 18446744073709551616) : bits .and .u64 (n : Int) 6148914691236517205 = ((n &&& 6148914691236517205 : Nat) : Int) := bits_and_u64_nat n 6148914691236517205 h (by omega)
theorem gather_term1 (a : Nat) (h : a ≤ 6148914691236517205) :
    bits .and .u64 (bits .or .u64 (a : Int) ((a : Int) / 2)) 3689348814741910323 = ((sd a 1 3689348814741910323 : Nat) : Int) :=
  sd_step a 1 2 _ _ rfl rfl (by omega) (by omega)
theorem gather_term2 (a : Nat) (h : a ≤ 6148914691236517205) :
    bits .and .u64 (bits .or .u64 (a : Int) ((a : Int) / 4)) 1085102592571150095 = ((sd a 2 1085102592571150095 : Nat) : Int) :=
  sd_step a 2 4 _ _ rfl rfl (by omega) (by omega)
theorem gather_term4 (a : Nat) (h : a ≤ 6148914691236517205) :
    bits .and .u64 (bits .or .u64 (a : Int) ((a : Int) / 16)) 71777214294589695 = ((sd a 4 71777214294589695 : Nat) : Int) :=
  sd_step a 4 16 _ _ rfl rfl (by omega) (by omega)
theorem gather_term8 (a : Nat) (h : a ≤ 6148914691236517205) :
    bits .and .u64 (bits .or .u64 (a : Int) ((a : Int) / 256)) 281470681808895 = ((sd a 8 281470681808895 : Nat) : Int) :=
  sd_step a 8 256 _ _ rfl rfl (by omega) (by omega)
theorem gather_term16 (a : Nat) (h : a ≤ 6148914691236517205) :
    bits .and .u64 (bits .or .u64 (a : Int) ((a : Int) / 65536)) 4294967295 = ((sd a 16 4294967295 : Nat) : Int) :=
  sd_step a 16 65536 _ _ rfl rfl (by omega) (by omega)
theorem emod_u32 (a : Nat) (h : a ≤ 4294967295) : (a : Int) % 4294967296 = (a : Int) := by omega
theorem wrap_u32_nat (a : Nat) (h : a ≤ 4294967295) : IntKind.u32.wrap (a : Int) = (a : Int) := by rw [IntKind.wrap_u32]; omega

set_option maxHeartbeats 1000000 in
theorem gather_any (w : World) (n : Nat) (h : n < 18446744073709551616) : Calls Try.prog 38 #[.int .u64 (n : Int)] w fun e w' => e = .returned (.int .u32 (gth 32 n : Nat)) ∧ w = w' := by
  have hu : (n : Int) ≤ 18446744073709551615 := by omega
  have HU := Lib.hid h
  clear h
  go_enter Try.func38, Try.ntmps38
  go_wp2
  go_rounds 6
  go_ret
  refine ⟨ret_int ?_, rfl⟩
  rw [gather_term0 n HU.out, gather_term1 _ Nat.and_le_right, gather_term2 _ (Nat.le_trans (sd_lt _ _ _) (by omega)), gather_term4 _ (Nat.le_trans (sd_lt _ _ _) (by omega)), gather_term8 _ (Nat.le_trans (sd_lt _ _ _) (by omega)), gather_term16 _ (Nat.le_trans (sd_lt _ _ _) (by omega)), ← gthN_gth 64 (by omega) n HU.out, emod_u32 _ (sd_lt _ _ _)]
  rfl

/-- A coordinate, moved above nought. -/
def up (x : Int) : Nat := (x + 2147483648).toNat
theorem xor_hi (a r : Nat) (h : r < 2 ^ 31) (ha : a ≤ 1) : (2 ^ 31 * a + r) ^^^ (2 ^ 31 * 1 + 0) = 2 ^ 31 * (1 - a) + r := by
  apply Nat.eq_of_testBit_eq
  intro j
  rw [Nat.testBit_xor, Nat.testBit_two_pow_mul_add a h, Nat.testBit_two_pow_mul_add 1 (by omega), Nat.testBit_two_pow_mul_add (1 - a) h]
  split
  · simp
  · rcases (show a = 0 ∨ a = 1 by omega) with rfl | rfl <;> simp
theorem xor_u32_top (n : Nat) (h : n < 4294967296) : bits .xor .u32 (n : Int) 2147483648 = (((n + 2147483648) % 4294967296 : Nat) : Int) := by
  have h1 : (BitVec.ofInt 32 (n : Int)).toNat = n := by
    rw [BitVec.ofInt_natCast, BitVec.toNat_ofNat]; exact Nat.mod_eq_of_lt (by omega)
  show IntKind.u32.wrap ((BitVec.ofInt 32 (n : Int) ^^^ BitVec.ofInt 32 2147483648).toNat : Int) = _
  rw [BitVec.toNat_xor, h1, show (BitVec.ofInt 32 2147483648).toNat = 2 ^ 31 * 1 + 0 from rfl, IntKind.wrap_u32]
  obtain ⟨a, r, h2, h3, h4⟩ : ∃ a r, n = 2 ^ 31 * a + r ∧ r < 2 ^ 31 ∧ a ≤ 1 := ⟨n / 2147483648, n % 2147483648, by omega, by omega, by omega⟩
  rw [h2, xor_hi a r h3 h4]
  rcases (show a = 0 ∨ a = 1 by omega) with rfl | rfl <;> omega
theorem xor_top (x : Int) (h : I32 x) : bits .xor .u32 (IntKind.u32.wrap x) 2147483648 = ((up x : Nat) : Int) := by
  obtain ⟨h1, h2⟩ := h
  have e : IntKind.u32.wrap x = ((x % 4294967296).toNat : Int) := by rw [IntKind.wrap_u32]; omega
  rw [e, xor_u32_top _ (by omega)]
  unfold up
  omega
theorem code_eq (x y : Int) (hx : up x < 4294967296) (hy : up y < 4294967296) : bits .or .u64 ((spr 32 (up x) : Nat) : Int) (IntKind.u64.wrap (((spr 32 (up y) : Nat) : Int) * 2)) = ((spr 32 (up x) + 2 * spr 32 (up y) : Nat) : Int) := by
  have h1 := spr_lt 32 (up x)
  have h2 := spr_lt 32 (up y)
  have e : IntKind.u64.wrap (((spr 32 (up y) : Nat) : Int) * 2) = ((2 * spr 32 (up y) : Nat) : Int) := by rw [IntKind.wrap_u64]; omega
  rw [e, bits_or_u64_nat _ _ (by omega) (by omega), spr_join]
/-- A cell's place. -/
def codeN (x y : Int) : Nat := spr 32 (up x) + 2 * spr 32 (up y)

set_option maxHeartbeats 1000000 in
theorem Code_any (w : World) (x y : Int) (hx : I32 x) (hy : I32 y) : Calls Try.prog 12 #[pt x y] w fun e w' => e = .returned (.int .u64 (codeN x y : Nat)) ∧ Fr [] w w' := by
  unfold pt
  have e1 := xor_top x hx
  have e2 := xor_top y hy
  have hux : up x < 4294967296 := by unfold up; unfold I32 at hx; omega
  have huy : up y < 4294967296 := by unfold up; unfold I32 at hy; omega
  obtain ⟨x1, x2⟩ := hx
  obtain ⟨y1, y2⟩ := hy
  have HX := Lib.hid (show ∀ w, Calls Try.prog 37 #[.int .u32 (up x : Int)] w fun e w' => e = .returned (.int .u64 (spr 32 (up x) : Nat)) ∧ w' = w from fun w => (spread_any w _ hux).mono fun _ _ h => ⟨h.1, h.2.symm⟩)
  have HY := Lib.hid (show ∀ w, Calls Try.prog 37 #[.int .u32 (up y : Int)] w fun e w' => e = .returned (.int .u64 (spr 32 (up y) : Nat)) ∧ w' = w from fun w => (spread_any w _ huy).mono fun _ _ h => ⟨h.1, h.2.symm⟩)
  have HU := Lib.hid (And.intro hux huy)
  clear hux huy
  go_enter Try.func12, Try.ntmps12
  go_wp2
  go_quiet ((first | (go_at_call_of 37 (Value.int IntKind.u32 (up x : Int)); exact Calls.quiet_of_same (HX.out _)) | (go_at_call_of 37 (Value.int IntKind.u32 (up y : Int)); exact Calls.quiet_of_same (HY.out _))))
  go_wp2
  go_ret
  exact ⟨ret_int (code_eq x y HU.out.1 HU.out.2), ((Fr.refl _ _).alloc _).drewN _⟩

set_option maxHeartbeats 1000000 in
theorem refCode_any (w : World) (x y : Int) (hx : I32 x) (hy : I32 y) : Calls Try.prog 13 #[pt x y] w fun e w' => e = .returned (.int .u64 (codeN x y : Nat)) ∧ Fr [] w w' := by
  unfold pt
  have hux : up x < 4294967296 := by unfold up; unfold I32 at hx; omega
  have huy : up y < 4294967296 := by unfold up; unfold I32 at hy; omega
  have e1 : IntKind.u64.wrap (x + 2147483648) = (up x : Int) := by rw [IntKind.wrap_u64]; unfold up; unfold I32 at hx; omega
  have e2 : IntKind.u64.wrap (y + 2147483648) = (up y : Int) := by rw [IntKind.wrap_u64]; unfold up; unfold I32 at hy; omega
  obtain ⟨x1, x2⟩ := hx
  obtain ⟨y1, y2⟩ := hy
  have hu0 : up x ≤ 4294967295 := by omega
  have hv0 : up y ≤ 4294967295 := by omega
  clear hux huy
  unfold codeN
  generalize up x = u at *
  generalize up y = v at *
  go_enter Try.func13, Try.ntmps13
  go_wp2
  clear e1 e2
  go_loop [3, 4, 5, 6, 7] (fun a b n m i => ∃ k : Nat, k ≤ 32 ∧ i = .int .i64 k ∧ a = .int .u64 (u / 2 ^ k : Nat) ∧ b = .int .u64 (v / 2 ^ k : Nat) ∧ m = .int .u64 (4 ^ k % 18446744073709551616 : Nat) ∧ n = .int .u64 (spr k u + 2 * spr k v : Nat)) (fun _ _ _ _ i => (32 - intOf i).toNat)
  case atStart => exact ⟨0, by omega, rfl, by simp, by simp, rfl, rfl⟩
  case round =>
    obtain ⟨k, hk, rfl, rfl, rfl, rfl, rfl⟩ := hrel
    by_cases hlt : k < 32
    · have h4 := four_le hlt
      have hs1 := spr_lt k u
      have hs2 := spr_lt k v
      have ht1 := spr_top k u
      have ht2 := spr_top k v
      have hd1 : u / 2 ^ (k + 1) = u / 2 ^ k / 2 := by rw [Nat.div_div_eq_div_mul, Nat.pow_succ]
      have hd2 : v / 2 ^ (k + 1) = v / 2 ^ k / 2 := by rw [Nat.div_div_eq_div_mul, Nat.pow_succ]
      have hp : 4 ^ (k + 1) = 4 * 4 ^ k := by rw [Nat.pow_succ, Nat.mul_comm]
      have hm : 4 ^ k % 18446744073709551616 = 4 ^ k := Nat.mod_eq_of_lt (by omega)
      have hdu : u / 2 ^ k ≤ u := Nat.div_le_self _ _
      have hdv : v / 2 ^ k ≤ v := Nat.div_le_self _ _
      rw [hm]
      generalize hN : spr k u + 2 * spr k v = N
      have hN2 : N < 4 ^ k := by omega
      have hR : spr (k + 1) u + 2 * spr (k + 1) v = N + 4 ^ k * (u / 2 ^ k % 2) + 4 ^ k * 2 * (v / 2 ^ k % 2) := by
        rw [ht1, ht2, ← hN, Nat.mul_add, ← Nat.mul_assoc 2, Nat.mul_comm 2 (4 ^ k)]; omega
      have HR := Lib.hid (And.intro hR (And.intro hd1 (And.intro hd2 hp)))
      clear hR hd1 hd2 hp ht1 ht2 hN hm hs1 hs2
      generalize 4 ^ k = W at *
      generalize u / 2 ^ k = U at *
      generalize v / 2 ^ k = V at *
      have m1 : 0 ≤ (W : Int) * ((U : Int) % 2) := Int.mul_nonneg (by omega) (by omega)
      have m2 : (W : Int) * ((U : Int) % 2) ≤ (W : Int) := by have := Int.mul_le_mul_of_nonneg_left (show (U : Int) % 2 ≤ 1 by omega) (show 0 ≤ (W : Int) by omega); omega
      have m3 : 0 ≤ (W : Int) * 2 * ((V : Int) % 2) := Int.mul_nonneg (by omega) (by omega)
      have m4 : (W : Int) * 2 * ((V : Int) % 2) ≤ (W : Int) * 2 := by have := Int.mul_le_mul_of_nonneg_left (show (V : Int) % 2 ≤ 1 by omega) (show 0 ≤ (W : Int) * 2 by omega); omega
      have u1 : (U : Int) ≤ 4294967295 := by omega
      have v1 : (V : Int) ≤ 4294967295 := by omega
      have w1 : (W : Int) ≤ 4611686018427387904 := by omega
      have n1 : (N : Int) < (W : Int) := by omega
      go_wp2
      obtain ⟨r1, r2, r3, r4⟩ := HR.out
      refine ⟨⟨k + 1, by omega, by go_num, ?_, ?_, ?_, ?_⟩, by simp [intOf]; omega⟩
      · rw [r2]; rfl
      · rw [r3]; rfl
      · rw [r4, IntKind.wrap_u64]; congr 1; omega
      · rw [r1]; congr 1
    · obtain rfl : k = 32 := by omega
      go_wp2
      go_ret
      exact ⟨rfl, (Fr.refl _ _).alloc _⟩

theorem gather_int (w : World) (m : Int) (h0 : 0 ≤ m) (h : m ≤ 18446744073709551615) : Calls Try.prog 38 #[.int .u64 m] w fun e w' => e = .returned (.int .u32 (gth 32 m.toNat : Nat)) ∧ w = w' := by
  obtain ⟨n, rfl⟩ := Int.eq_ofNat_of_zero_le h0
  exact gather_any w n (by omega)

/-- Back from above nought. -/
def dn (g : Nat) : Int := (g : Int) - 2147483648
theorem dn_eq (g : Nat) (h : g < 4294967296) : wrap32 (bits .xor .u32 (g : Int) 2147483648) = dn g := by
  rw [xor_u32_top g h]
  unfold dn wrap32
  omega
theorem decode_eq (n : Nat) : ((n : Int) / 2).toNat = n / 2 := by omega

/-- The cell at a place. -/
def cellX (n : Nat) : Int := dn (gth 32 n)
def cellY (n : Nat) : Int := dn (gth 32 (n / 2))

set_option maxHeartbeats 1000000 in
theorem Decode_any (w : World) (n : Nat) (h : n < 18446744073709551616) : Calls Try.prog 14 #[.int .u64 (n : Int)] w fun e w' => e = .returned (pt (cellX n) (cellY n)) ∧ Fr [] w w' := by
  have hn : (n : Int) ≤ 18446744073709551615 := by omega
  have H := Lib.hid h
  have G1 := Lib.hid (dn_eq (gth 32 n) (gth_lt 32 n))
  have G2 := Lib.hid (dn_eq (gth 32 (n / 2)) (gth_lt 32 (n / 2)))
  clear h
  go_enter Try.func14, Try.ntmps14
  go_wp2_with fail
  (with_reducible refine (gather_any _ _ H.out).mono ?_)
  rintro e w1 ⟨rfl, hw1⟩
  have hb1 : Blk w1 w.heap.size #[.int .i32 0, .int .i32 0] 33 := by rw [← hw1]; exact Blk.new _ _ _
  have f1 : Fr [] w w1 := by rw [← hw1]; exact (Fr.refl _ _).alloc _
  clear hw1
  go_wp2_with fail
  (with_reducible refine (gather_int _ _ ?_ ?_).mono ?_)
  · omega
  · omega
  rintro e w2 ⟨rfl, rfl⟩
  rw [decode_eq]
  have g1 := G1.out
  have g2 := G2.out
  have c0 := hb1.at 0 (v := .int .i32 0) rfl
  have c1 := hb1.at 1 (v := .int .i32 0) rfl
  have z0 := hb1.free 0
  have z1 := hb1.free 1
  have HB := Lib.hid (And.intro hb1 f1)
  clear hb1 f1
  go_wp2
  have hb := (HB.out.1.set 0 (.int .i32 (dn (gth 32 n)))).set 1 (.int .i32 (dn (gth 32 (n / 2))))
  have d0 := hb.at 0 (v := .int .i32 (dn (gth 32 n))) rfl
  have d1 := hb.at 1 (v := .int .i32 (dn (gth 32 (n / 2)))) rfl
  refine bodyPost_ret (v := .agg #[.int .i32 (dn (gth 32 n)), .int .i32 (dn (gth 32 (n / 2)))]) (by simp [results, Try.results14, go_sem, d0, d1]) rfl ⟨rfl, (HB.out.2.setCell _ _ (.inr (Nat.le_refl _))).setCell _ _ (.inr (Nat.le_refl _))⟩

set_option maxHeartbeats 1000000 in
theorem refDecode_any (w : World) (n : Nat) (h : n < 18446744073709551616) : Calls Try.prog 15 #[.int .u64 (n : Int)] w fun e w' => e = .returned (pt (cellX n) (cellY n)) ∧ Fr [] w w' := by
  have hn : (n : Int) ≤ 18446744073709551615 := by omega
  have H := Lib.hid h
  clear h
  unfold cellX cellY
  go_enter Try.func15, Try.ntmps15
  go_wp2
  obtain ⟨w1, hw1⟩ : ∃ w1, World.alloc w (.cells #[.int .i32 0, .int .i32 0] 33) = w1 := ⟨_, rfl⟩
  rw [hw1]
  have hb1 : Blk w1 w.heap.size #[.int .i32 0, .int .i32 0] 33 := by rw [← hw1]; exact Blk.new _ _ _
  have f1 : Fr [] w w1 := by rw [← hw1]; exact (Fr.refl _ _).alloc _
  have HB := Lib.hid (And.intro hb1 f1)
  clear hw1 hb1 f1
  go_loop [0, 3, 4, 5, 6] (fun a u v m i => ∃ k : Nat, k ≤ 32 ∧ i = .int .i64 k ∧ a = .int .u64 (n / 4 ^ k : Nat) ∧ u = .int .i64 (gth k n : Nat) ∧ v = .int .i64 (gth k (n / 2) : Nat) ∧ m = .int .i64 (2 ^ k : Nat)) (fun _ _ _ _ i => (32 - intOf i).toNat)
  case atStart => exact ⟨0, by omega, rfl, by simp, rfl, rfl, rfl⟩
  case round =>
    obtain ⟨k, hk, rfl, rfl, rfl, rfl, rfl⟩ := hrel
    by_cases hlt : k < 32
    · have h4 := two_le hlt
      have hs1 := gth_lt k n
      have hs2 := gth_lt k (n / 2)
      have ht1 := gth_top k n
      have ht2 := gth_top k (n / 2)
      have hd1 : n / 4 ^ (k + 1) = n / 4 ^ k / 2 / 2 := by rw [Nat.pow_succ, ← Nat.div_div_eq_div_mul]; omega
      have hd2 : n / 2 / 4 ^ k = n / 4 ^ k / 2 := by rw [Nat.div_div_eq_div_mul, Nat.div_div_eq_div_mul, Nat.mul_comm]
      have hp : 2 ^ (k + 1) = 2 * 2 ^ k := by rw [Nat.pow_succ, Nat.mul_comm]
      have hdn : n / 4 ^ k ≤ n := Nat.div_le_self _ _
      rw [hd2] at ht2
      have HR := Lib.hid (And.intro ht1 (And.intro ht2 (And.intro hd1 hp)))
      clear ht1 ht2 hd1 hd2 hp
      generalize gth k n = U at *
      generalize gth k (n / 2) = V at *
      generalize 2 ^ k = W at *
      generalize n / 4 ^ k = A at *
      have m1 : 0 ≤ (W : Int) * ((A : Int) % 2) := Int.mul_nonneg (by omega) (by omega)
      have m2 : (W : Int) * ((A : Int) % 2) ≤ (W : Int) := by have := Int.mul_le_mul_of_nonneg_left (show (A : Int) % 2 ≤ 1 by omega) (show 0 ≤ (W : Int) by omega); omega
      have m3 : 0 ≤ (W : Int) * ((A : Int) / 2 % 2) := Int.mul_nonneg (by omega) (by omega)
      have m4 : (W : Int) * ((A : Int) / 2 % 2) ≤ (W : Int) := by have := Int.mul_le_mul_of_nonneg_left (show (A : Int) / 2 % 2 ≤ 1 by omega) (show 0 ≤ (W : Int) by omega); omega
      have a1 : (A : Int) ≤ 18446744073709551615 := by omega
      have w1 : (W : Int) ≤ 2147483648 := by omega
      have u1 : (U : Int) < (W : Int) := by omega
      have v1 : (V : Int) < (W : Int) := by omega
      go_wp2
      obtain ⟨r1, r2, r3, r4⟩ := HR.out
      refine ⟨⟨k + 1, by omega, by go_num, ?_, ?_, ?_, ?_⟩, by simp [intOf]; omega⟩
      · rw [r3]; rfl
      · rw [r1]; rfl
      · rw [r2]; rfl
      · rw [r4, Nat.mul_comm]; rfl
    · obtain rfl : k = 32 := by omega
      have g1 : ((gth 32 n : Nat) : Int) ≤ 4294967295 := by have := gth_lt 32 n; omega
      have g2 : ((gth 32 (n / 2) : Nat) : Int) ≤ 4294967295 := by have := gth_lt 32 (n / 2); omega
      have k1 : -2147483648 ≤ dn (gth 32 n) ∧ dn (gth 32 n) ≤ 2147483647 := by unfold dn; omega
      have k2 : -2147483648 ≤ dn (gth 32 (n / 2)) ∧ dn (gth 32 (n / 2)) ≤ 2147483647 := by unfold dn; omega
      have g3 : ((gth 32 n : Nat) : Int) - 2147483648 = dn (gth 32 n) := rfl
      have g4 : ((gth 32 (n / 2) : Nat) : Int) - 2147483648 = dn (gth 32 (n / 2)) := rfl
      obtain ⟨k11, k12⟩ := k1
      obtain ⟨k21, k22⟩ := k2
      have c0 := HB.out.1.at 0 (v := .int .i32 0) rfl
      have c1 := HB.out.1.at 1 (v := .int .i32 0) rfl
      have z0 := HB.out.1.free 0
      have z1 := HB.out.1.free 1
      go_wp2
      have hb := (HB.out.1.set 0 (.int .i32 (dn (gth 32 n)))).set 1 (.int .i32 (dn (gth 32 (n / 2))))
      have d0 := hb.at 0 (v := .int .i32 (dn (gth 32 n))) rfl
      have d1 := hb.at 1 (v := .int .i32 (dn (gth 32 (n / 2)))) rfl
      refine bodyPost_ret (v := .agg #[.int .i32 (dn (gth 32 n)), .int .i32 (dn (gth 32 (n / 2)))]) (by simp [results, Try.results15, go_sem, d0, d1]) rfl ⟨rfl, (HB.out.2.setCell _ _ (.inr (Nat.le_refl _))).setCell _ _ (.inr (Nat.le_refl _))⟩

end Go.Proofs.Ythagbhiblncpkaa
