/-
  OnesCount64; Count.
-/
import Derived.Test.YtgoolkgjcmdilaaDoorBiA
namespace Go.Proofs.YtgoolkgjcmdilaaDoor
open Go.RowKit
set_option linter.unusedVariables false
set_option linter.unusedSimpArgs false
attribute [local go_sem] Oper.semAt_some

theorem and127 {y : Nat} (h : y ≤ 4611686018427387904) : bits BinOp.and IntKind.i64 (wrap64 (y : Int)) 127 = ((y % 128 : Nat) : Int) := by
  rw [w64 (by omega)]
  have h1 : (BitVec.ofInt 64 (y : Int)).toNat = y := by
    rw [BitVec.ofInt_natCast, BitVec.toNat_ofNat]; exact Nat.mod_eq_of_lt (by omega)
  have h2 : (BitVec.ofInt 64 (127 : Int)).toNat = 127 := by decide
  show IntKind.i64.wrap ((BitVec.ofInt 64 (y : Int) &&& BitVec.ofInt 64 (127 : Int)).toNat : Int) = _
  rw [BitVec.toNat_and, h1, h2, show (127 : Nat) = 2 ^ 7 - 1 from rfl, Nat.and_two_pow_sub_one_eq_mod, wr (by omega)]
theorem wrU {y : Nat} (h : y < 18446744073709551616) : IntKind.u64.wrap (y : Int) = (y : Int) := by
  rw [IntKind.wrap_u64]; omega
set_option maxRecDepth 100000 in
theorem ones_any (w : World) (x : Nat) (hx : x < 18446744073709551616) : Calls Tryd.prog 91 #[.int .u64 (x : Nat)] w fun e w' => e = .returned (.int .i64 (ds 1 64 x : Nat)) ∧ w = w' := by
  have hz := bytes8 (swar3 x) (swar_dg3 x) (by have := fd_lt 4 (by decide) 8 (fd 2 16 (fd 1 32 x)); unfold swar3; simpa using this)
  rw [swar_ds] at hz
  have l1 := fd_lt 1 (by decide) 32 x
  have l2 := fd_lt 2 (by decide) 16 (fd 1 32 x)
  have l3 := fd_lt 4 (by decide) 8 (fd 2 16 (fd 1 32 x))
  simp only [Nat.reduceMul, Nat.reducePow] at l1 l2 l3
  have t1 := two_and 1 32 x
  have t2 := two_and 2 16 (fd 1 32 x)
  have t3 := sum_and 4 4 (by decide) 8 (fd 2 16 (fd 1 32 x)) (swar_dg2 x) (by simpa using l2)
  rw [mk1] at t1
  rw [mk2] at t2
  rw [mk4] at t3
  simp only [Nat.reducePow] at t1 t2 t3
  have hs : swar3 x = fd 4 8 (fd 2 16 (fd 1 32 x)) := rfl
  rw [hs] at hz
  obtain ⟨y1, hy1⟩ : ∃ y, y = fd 1 32 x := ⟨_, rfl⟩
  rw [← hy1] at t1 t2 t3 l1 l2 l3 hz
  obtain ⟨y2, hy2⟩ : ∃ y, y = fd 2 16 y1 := ⟨_, rfl⟩
  rw [← hy2] at t2 t3 l2 l3 hz
  obtain ⟨y3, hy3⟩ : ∃ y, y = fd 4 8 y2 := ⟨_, rfl⟩
  rw [← hy3] at t3 l3 hz
  have hD := swar_dg2 x
  rw [← hy1, ← hy2] at hD
  have y2s : y2 / 16 + y2 < 18446744073709551616 := by
    simp only [dg, Nat.reducePow, Nat.div_div_eq_div_mul, Nat.reduceMul] at hD
    obtain ⟨-, -, -, -, -, -, -, -, -, -, -, -, -, -, -, h15, -⟩ := hD
    omega
  obtain ⟨a1, ha1⟩ : ∃ a, a = x / 2 &&& 6148914691236517205 := ⟨_, rfl⟩
  obtain ⟨a2, ha2⟩ : ∃ a, a = x &&& 6148914691236517205 := ⟨_, rfl⟩
  obtain ⟨a3, ha3⟩ : ∃ a, a = y1 / 4 &&& 3689348814741910323 := ⟨_, rfl⟩
  obtain ⟨a4, ha4⟩ : ∃ a, a = y1 &&& 3689348814741910323 := ⟨_, rfl⟩
  rw [← ha1, ← ha2] at t1
  rw [← ha3, ← ha4] at t2
  have e1 : bits BinOp.and IntKind.u64 ((x : Int) / 2) 6148914691236517205 = (a1 : Int) := by rw [ha1]; exact bits_and_u64_nat (x / 2) 6148914691236517205 (by omega) (by decide)
  have e2 : bits BinOp.and IntKind.u64 (x : Int) 6148914691236517205 = (a2 : Int) := by rw [ha2]; exact bits_and_u64_nat x 6148914691236517205 hx (by decide)
  have e3 : IntKind.u64.wrap ((a1 : Int) + (a2 : Int)) = (y1 : Int) := by rw [← Int.natCast_add, t1]; exact wrU l1
  have e4 : bits BinOp.and IntKind.u64 ((y1 : Int) / 4) 3689348814741910323 = (a3 : Int) := by rw [ha3]; exact bits_and_u64_nat (y1 / 4) 3689348814741910323 (by omega) (by decide)
  have e5 : bits BinOp.and IntKind.u64 (y1 : Int) 3689348814741910323 = (a4 : Int) := by rw [ha4]; exact bits_and_u64_nat y1 3689348814741910323 l1 (by decide)
  have e6 : IntKind.u64.wrap ((a3 : Int) + (a4 : Int)) = (y2 : Int) := by rw [← Int.natCast_add, t2]; exact wrU l2
  obtain ⟨a5, ha5⟩ : ∃ a, a = y2 / 16 + y2 := ⟨_, rfl⟩
  rw [← ha5] at t3 y2s
  have e7 : IntKind.u64.wrap ((y2 : Int) / 16 + (y2 : Int)) = (a5 : Int) := by
    rw [show (y2 : Int) / 16 + (y2 : Int) = (a5 : Int) by omega]; exact wrU y2s
  have e8 : bits BinOp.and IntKind.u64 (a5 : Int) 1085102592571150095 = (y3 : Int) := (bits_and_u64_nat a5 1085102592571150095 y2s (by decide)).trans (by rw [t3])
  obtain ⟨h1, h2, h3, h4⟩ := hz
  obtain ⟨y4, hy4⟩ : ∃ a, a = y3 + y3 / 256 := ⟨_, rfl⟩
  rw [← hy4] at h1 h2 h3 h4
  obtain ⟨y5, hy5⟩ : ∃ a, a = y4 + y4 / 65536 := ⟨_, rfl⟩
  rw [← hy5] at h1 h3 h4
  obtain ⟨y6, hy6⟩ : ∃ a, a = y5 + y5 / 4294967296 := ⟨_, rfl⟩
  rw [← hy6] at h1 h4
  have e9 : IntKind.u64.wrap ((y3 : Int) + (y3 : Int) / 256) = (y4 : Int) := by
    rw [show (y3 : Int) + (y3 : Int) / 256 = (y4 : Int) by omega]; exact wrU h2
  have e10 : IntKind.u64.wrap ((y4 : Int) + (y4 : Int) / 65536) = (y5 : Int) := by
    rw [show (y4 : Int) + (y4 : Int) / 65536 = (y5 : Int) by omega]; exact wrU h3
  have e11 : IntKind.u64.wrap ((y5 : Int) + (y5 : Int) / 4294967296) = (y6 : Int) := by
    rw [show (y5 : Int) + (y5 : Int) / 4294967296 = (y6 : Int) by omega]; exact wrU (by omega)
  have e12 : bits BinOp.and IntKind.i64 (wrap64 (y6 : Int)) 127 = ((ds 1 64 x : Nat) : Int) := by rw [and127 h4, h1]
  obtain ⟨d, hd⟩ : ∃ d, d = ds 1 64 x := ⟨_, rfl⟩
  rw [← hd] at e12 ⊢
  clear h1 h2 h3 h4 hy1 hy2 hy3 hy4 hy5 hy6 ha1 ha2 ha3 ha4 ha5 hd hD t1 t2 t3 l1 l2 l3 hs y2s hx
  go_enter Tryd.func91, Tryd.ntmps91
  go_wp2
  go_ret
  exact ⟨rfl, rfl⟩
end Go.Proofs.YtgoolkgjcmdilaaDoor
