/-
  Tb, part 17 of 36: the texts Spd.
-/
import Derived.Test.YtgoolkgjcmdilaaDoorProg
import Derived.Laws.Externs
import Derived.Test.YtgoolkgjcmdilaaDoorTb1
import Derived.Test.YtgoolkgjcmdilaaDoorTb6
import Derived.Test.YtgoolkgjcmdilaaDoorTb16
section
namespace Go.Proofs.YtgoolkgjcmdilaaDoor
open Go.RowKit Flo
set_option linter.unusedVariables false
/-- The word that is handed back; the world behind it. -/
def giveV (o : Option Nat) (x y : Nat) (w : World) : Nat := match o with
  | some r => r
  | none => (Question.nanBits .f64 x y).cut (w.tape w.drawn (.nanBits .f64 x y))
def giveW (o : Option Nat) (w : World) : World := match o with
  | some _ => w
  | none => w.drew
def addV (w : World) (x y : Nat) : Nat := giveV (Ieee.double.add x y) x y w
def addW (w : World) (x y : Nat) : World := giveW (Ieee.double.add x y) w
def subV (w : World) (x y : Nat) : Nat := giveV (Ieee.double.sub x y) x y w
def subW (w : World) (x y : Nat) : World := giveW (Ieee.double.sub x y) w
def mulV (w : World) (x y : Nat) : Nat := giveV (Ieee.double.mul x y) x y w
def mulW (w : World) (x y : Nat) : World := giveW (Ieee.double.mul x y) w
def quoV (w : World) (x y : Nat) : Nat := giveV (Ieee.double.div x y) x y w
def quoW (w : World) (x y : Nat) : World := giveW (Ieee.double.div x y) w
theorem cut_nan (x y t : Nat) : isNaN ((Question.nanBits .f64 x y).cut t) = true := by
  have e : (Question.nanBits .f64 x y).cut t = (t % 2) * 2 ^ 63 + (0x7ff0000000000000 + 1 + (t / 2) % (2 ^ 52 - 1)) := by
    show (t % 2) * 2 ^ 63 + 0x7ff0000000000000 + 1 + (t / 2) % (2 ^ 52 - 1) = _
    omega
  rw [e]
  unfold isNaN
  rw [read_def]
  have h1 : (t % 2 * 2 ^ 63 + (0x7ff0000000000000 + 1 + t / 2 % (2 ^ 52 - 1))) % 2 ^ 63 = 0x7ff0000000000000 + 1 + t / 2 % (2 ^ 52 - 1) := by omega
  rw [h1, if_neg (by omega), if_neg (by omega), if_neg (by omega)]
  rfl
theorem cut_lt (x y t : Nat) : (Question.nanBits .f64 x y).cut t < 2 ^ 64 := by
  show (t % 2) * 2 ^ 63 + 0x7ff0000000000000 + 1 + (t / 2) % (2 ^ 52 - 1) < 2 ^ 64
  omega
theorem giveV_gives (o : Option Nat) (x y : Nat) (w : World) : Gives o (giveV o x y w) := by
  cases o with
  | some r => exact rfl
  | none => exact ⟨cut_nan x y _, cut_lt x y _⟩
theorem addV_gives (w : World) (x y : Nat) : Gives (Ieee.double.add x y) (addV w x y) := giveV_gives _ _ _ _
theorem subV_gives (w : World) (x y : Nat) : Gives (Ieee.double.sub x y) (subV w x y) := giveV_gives _ _ _ _
theorem mulV_gives (w : World) (x y : Nat) : Gives (Ieee.double.mul x y) (mulV w x y) := giveV_gives _ _ _ _
theorem quoV_gives (w : World) (x y : Nat) : Gives (Ieee.double.div x y) (quoV w x y) := giveV_gives _ _ _ _
section
variable {P : Program} (w : World) (t : TypeId) (x y : Nat)
theorem run_give (o : Option Nat) : (match o with | some r => (pure (.float .f64 r) : Sem Value) | none => (do pure (.float .f64 (← choose (.nanBits .f64 x y))))).run P w = .ok (.float .f64 (giveV o x y w)) (giveW o w) := by
  cases o with
  | some r => rfl
  | none => rfl
theorem run_addF : (binOp .add t (.float .f64 x) (.float .f64 y)).run P w = .ok (.float .f64 (addV w x y)) (addW w x y) := by
  rw [show binOp .add t (.float .f64 x) (.float .f64 y) = Op.floatArith .add .f64 x y by rfl]
  exact run_give w x y (Ieee.double.add x y)
theorem run_subF : (binOp .sub t (.float .f64 x) (.float .f64 y)).run P w = .ok (.float .f64 (subV w x y)) (subW w x y) := by
  rw [show binOp .sub t (.float .f64 x) (.float .f64 y) = Op.floatArith .sub .f64 x y by rfl]
  exact run_give w x y (Ieee.double.sub x y)
theorem run_mulF : (binOp .mul t (.float .f64 x) (.float .f64 y)).run P w = .ok (.float .f64 (mulV w x y)) (mulW w x y) := by
  rw [show binOp .mul t (.float .f64 x) (.float .f64 y) = Op.floatArith .mul .f64 x y by rfl]
  exact run_give w x y (Ieee.double.mul x y)
theorem run_quoF : (binOp .quo t (.float .f64 x) (.float .f64 y)).run P w = .ok (.float .f64 (quoV w x y)) (quoW w x y) := by
  rw [show binOp .quo t (.float .f64 x) (.float .f64 y) = Op.floatArith .quo .f64 x y by rfl]
  exact run_give w x y (Ieee.double.div x y)
end
section
variable (w : World) (x y : Nat) (a : Addr)
theorem giveW_cell (o : Option Nat) : (giveW o w).cell? a = w.cell? a := by cases o <;> rfl
theorem giveW_frozen (o : Option Nat) : (giveW o w).frozen? a = w.frozen? a := by cases o <;> rfl
theorem giveW_size (o : Option Nat) : (giveW o w).heap.size = w.heap.size := by cases o <;> rfl
theorem addW_cell : (addW w x y).cell? a = w.cell? a := giveW_cell _ _ _
theorem subW_cell : (subW w x y).cell? a = w.cell? a := giveW_cell _ _ _
theorem mulW_cell : (mulW w x y).cell? a = w.cell? a := giveW_cell _ _ _
theorem quoW_cell : (quoW w x y).cell? a = w.cell? a := giveW_cell _ _ _
theorem addW_frozen : (addW w x y).frozen? a = w.frozen? a := giveW_frozen _ _ _
theorem subW_frozen : (subW w x y).frozen? a = w.frozen? a := giveW_frozen _ _ _
theorem mulW_frozen : (mulW w x y).frozen? a = w.frozen? a := giveW_frozen _ _ _
theorem quoW_frozen : (quoW w x y).frozen? a = w.frozen? a := giveW_frozen _ _ _
theorem addW_size : (addW w x y).heap.size = w.heap.size := giveW_size _ _
theorem subW_size : (subW w x y).heap.size = w.heap.size := giveW_size _ _
theorem mulW_size : (mulW w x y).heap.size = w.heap.size := giveW_size _ _
theorem quoW_size : (quoW w x y).heap.size = w.heap.size := giveW_size _ _
end
section
variable {S : List Nat} {a w : World}
theorem Fr.give (h : Fr S a w) (o : Option Nat) : Fr S a (giveW o w) := by cases o with | some r => exact h | none => exact h.drew
theorem Fr.addW (h : Fr S a w) (x y : Nat) : Fr S a (Go.Proofs.YtgoolkgjcmdilaaDoor.addW w x y) := h.give _
theorem Fr.subW (h : Fr S a w) (x y : Nat) : Fr S a (Go.Proofs.YtgoolkgjcmdilaaDoor.subW w x y) := h.give _
theorem Fr.mulW (h : Fr S a w) (x y : Nat) : Fr S a (Go.Proofs.YtgoolkgjcmdilaaDoor.mulW w x y) := h.give _
theorem Fr.quoW (h : Fr S a w) (x y : Nat) : Fr S a (Go.Proofs.YtgoolkgjcmdilaaDoor.quoW w x y) := h.give _
end
@[go_sem] theorem run_store_float {P : Program} {w : World} {m : Mode} (a : Addr) (k : FloatKind) (b : Nat) : (store a (.float k b) m).run P w = stored P w a (.float k b) m := run_store P w a _ m rfl
theorem cmp_eql (t : TypeId) (a b : Nat) : binOp .eql t (.float .f64 a) (.float .f64 b) = pure (.bool (feq a b)) := by rw [binOp_float_cmp_eql]; rfl
theorem cmp_neq (t : TypeId) (a b : Nat) : binOp .neq t (.float .f64 a) (.float .f64 b) = pure (.bool (!feq a b)) := by rw [binOp_float_cmp_neq]; rfl
theorem cmp_lss (t : TypeId) (a b : Nat) : binOp .lss t (.float .f64 a) (.float .f64 b) = pure (.bool (flt a b)) := by rw [binOp_float_cmp_lss]; rfl
theorem cmp_leq (t : TypeId) (a b : Nat) : binOp .leq t (.float .f64 a) (.float .f64 b) = pure (.bool (fle a b)) := by rw [binOp_float_cmp_leq]; rfl
theorem cmp_gtr (t : TypeId) (a b : Nat) : binOp .gtr t (.float .f64 a) (.float .f64 b) = pure (.bool (fgt a b)) := by rw [binOp_float_cmp_gtr]; rfl
theorem cmp_geq (t : TypeId) (a b : Nat) : binOp .geq t (.float .f64 a) (.float .f64 b) = pure (.bool (fge a b)) := by rw [binOp_float_cmp_geq]; rfl
theorem cmp_ceq {P : Program} (w : World) (t : TypeId) (a b c d : Nat) : (binOp .eql t (.complex .f64 a b) (.complex .f64 c d)).run P w = .ok (.bool (feq a c && feq b d)) w := by rw [run_eql_complex]; rfl
theorem cmp_cne {P : Program} (w : World) (t : TypeId) (a b c d : Nat) : (binOp .neq t (.complex .f64 a b) (.complex .f64 c d)).run P w = .ok (.bool !(feq a c && feq b d)) w := by rw [run_neq_complex]; rfl
attribute [go_sem ↓ high] run_addF run_subF run_mulF run_quoF cmp_eql cmp_neq cmp_lss cmp_leq cmp_gtr cmp_geq cmp_ceq cmp_cne
attribute [go_sem high] run_addF run_subF run_mulF run_quoF cmp_eql cmp_neq cmp_lss cmp_leq cmp_gtr cmp_geq cmp_ceq cmp_cne
attribute [go_sem] addW_cell subW_cell mulW_cell quoW_cell addW_frozen subW_frozen mulW_frozen quoW_frozen addW_size subW_size mulW_size quoW_size
def sqrtV (w : World) (x : Nat) : Nat := giveV (Ieee.double.sqrt x) x x w
def sqrtW (w : World) (x : Nat) : World := giveW (Ieee.double.sqrt x) w
theorem sqrtV_gives (w : World) (x : Nat) : Gives (Ieee.double.sqrt x) (sqrtV w x) := giveV_gives _ _ _ _
theorem Fr.sqrtW {S : List Nat} {a w : World} (h : Fr S a w) (x : Nat) : Fr S a (Go.Proofs.YtgoolkgjcmdilaaDoor.sqrtW w x) := h.give _
end Go.Proofs.YtgoolkgjcmdilaaDoor
namespace Go.Proofs.YtgoolkgjcmdilaaDoor
open Go.RowKit Flo
set_option linter.unusedVariables false
set_option linter.unusedSimpArgs false
attribute [local go_sem] Oper.semAt_some
def FRes (R : Nat → Prop) (w : World) (e : Ending) (w' : World) : Prop := ∃ r, e = .returned (.float .f64 r) ∧ R r ∧ Fr [] w w'
theorem ext140_form (w : World) (x : Nat) : (callFunc 140 #[.float .f64 x]).run Tryd.prog w = ((do pure (.value (← Extern.MathSqrt.sqrt #[.float .f64 x]))) : Sem Next).run Tryd.prog w := by kernel_rfl
theorem ext140 (w : World) (x : Nat) : (callFunc 140 #[.float .f64 x]).run Tryd.prog w = .ok (.value (.float .f64 (sqrtV w x))) (sqrtW w x) := by
  rw [ext140_form]
  have : Extern.MathSqrt.sqrt #[.float .f64 x] = (match Ieee.double.sqrt x with | some r => (pure (.float .f64 r) : Sem Value) | none => (do pure (.float .f64 (← choose (.nanBits .f64 x x))))) := rfl
  rw [this]
  unfold sqrtV sqrtW
  cases Ieee.double.sqrt x with
  | some r => rfl
  | none => rfl
attribute [local go_sem] ext140
theorem sqrt_any (w : World) (x : Nat) : Calls Tryd.prog 100 #[.float .f64 x] w (FRes (fun r => Gives (Ieee.double.sqrt x) r) w) := by
  go_enter Tryd.func100, Tryd.ntmps100
  go_wp2
  go_ret
  exact ⟨_, rfl, sqrtV_gives _ _, (Fr.refl [] w).sqrtW _⟩
theorem ext139_form (w : World) (x y : Int) : (callFunc 139 #[.int .u64 x, .int .u64 y, .int .u64 0]).run Tryd.prog w = ((do pure (.value (← add64Entry #[.int .u64 x, .int .u64 y, .int .u64 0]))) : Sem Next).run Tryd.prog w := by kernel_rfl
theorem ext139 (w : World) (x y : Int) (hx : 0 ≤ x) (hy : 0 ≤ y) : (callFunc 139 #[.int .u64 x, .int .u64 y, .int .u64 0]).run Tryd.prog w = .ok (.value (.tuple #[.int .u64 ((x + y) % 18446744073709551616), .int .u64 ((x + y) / 18446744073709551616)])) w := by
  rw [ext139_form, Sem.run_bind, run_add64 (P := Tryd.prog) x y 0 hx hy (by omega) (by omega) w]
  simp [Result.andThen]
/-- The sum of two squares. -/
def sqs (a b : Nat) : Nat := a * a + b * b
theorem sqs_lt {a b : Nat} (ha : a ≤ 4294967295) (hb : b ≤ 4294967295) : sqs a b < 2 ^ 65 := by
  have h1 := sq_small a ha
  have h2 := sq_small b hb
  unfold sqs
  omega
theorem or_1 (n : Nat) : n ||| 1 = 2 * (n / 2) + 1 := by
  have h1 : (n ||| 1) % 2 = 1 := by rw [Nat.or_mod_two_eq_one]; simp
  have h2 : (n ||| 1) / 2 = n / 2 := by rw [Nat.or_div_two]; simp
  omega
/-- What distance makes of the bits when there is one too many. -/
theorem bits_half1 (N : Nat) (h1 : 2 ^ 64 ≤ N) (h2 : N < 2 ^ 65) :
    bits .or .u64 (bits .or .u64 9223372036854775808 (((N - 18446744073709551616 : Nat) : Int) / 2)) (bits .and .u64 ((N - 18446744073709551616 : Nat) : Int) 1) = ((half1 N : Nat) : Int) := by
  obtain ⟨s, hs⟩ : ∃ s, s = N - 18446744073709551616 := ⟨_, rfl⟩
  rw [← hs]
  have hs2 : s < 18446744073709551616 := by omega
  have e1 : ((s : Nat) : Int) / 2 = ((s / 2 : Nat) : Int) := by omega
  have a1 := bits_or_u64_nat 9223372036854775808 (s / 2) (by omega) (by omega)
  have a2 := bits_and_u64_nat s 1 hs2 (by omega)
  have b1 : 9223372036854775808 ||| (s / 2) = 9223372036854775808 + s / 2 := by
    have := Nat.two_pow_add_eq_or_of_lt (i := 63) (b := s / 2) (by omega) 1
    rw [Nat.mul_one] at this
    exact this.symm
  have b2 : s &&& 1 = s % 2 := Nat.and_one_is_mod s
  rw [b1] at a1
  rw [b2] at a2
  rw [e1]
  rw [show ((9223372036854775808 : Nat) : Int) = 9223372036854775808 from rfl] at a1
  rw [show ((1 : Nat) : Int) = 1 from rfl] at a2
  rw [a1, a2]
  have a3 := bits_or_u64_nat (9223372036854775808 + s / 2) (s % 2) (by omega) (by omega)
  rw [a3]
  congr 1
  have hm : s % 2 = 0 ∨ s % 2 = 1 := by omega
  unfold half1
  rcases hm with hm | hm
  · rw [hm, Nat.or_zero, if_pos (by omega)]
    omega
  · rw [hm, if_neg (by omega)]
    rw [or_1]
    omega
/-- The document's nearest: below 2^64. -/
theorem nearest_lo (w : World) (N : Nat) : Calls Tryd.prog 101 #[.int .u64 0, .int .u64 N] w (FRes (fun f => f = fl (N : Int)) w) := by
  go_enter Tryd.func101, Tryd.ntmps101
  go_wp2
  go_ret
  exact ⟨_, rfl, rfl, Fr.refl _ _⟩
theorem nearest_hi (w : World) (N : Nat) (h1 : 2 ^ 64 ≤ N) (h2 : N < 2 ^ 65) : Calls Tryd.prog 101 #[.int .u64 1, .int .u64 (N - 18446744073709551616 : Nat)] w (FRes (fun f => f = fl (N : Int)) w) := by
  obtain ⟨s, hs⟩ : ∃ s, s = N - 18446744073709551616 := ⟨_, rfl⟩
  rw [← hs]
  have hs2 : s < 18446744073709551616 := by omega
  have e0 : ((s : Nat) : Int) / 4 = ((s / 4 : Nat) : Int) := by omega
  have e1 : bits .and .u64 (s : Int) 3 = ((s % 4 : Nat) : Int) := by
    have := bits_and_u64_nat s 3 hs2 (by omega)
    rw [show s &&& 3 = s % 4 from Nat.and_two_pow_sub_one_eq_mod s 2] at this
    exact this
  have e2 : bits .or .u64 4611686018427387904 ((s : Int) / 4) = ((4611686018427387904 + s / 4 : Nat) : Int) := by
    have := bits_or_u64_nat 4611686018427387904 (s / 4) (by omega) (by omega)
    have b := Nat.two_pow_add_eq_or_of_lt (i := 62) (b := s / 4) (by omega) 1
    rw [Nat.mul_one] at b
    rw [show 4611686018427387904 ||| (s / 4) = 4611686018427387904 + s / 4 from b.symm] at this
    rw [e0]
    exact this
  have e3 : bits .or .u64 ((4611686018427387904 + s / 4 : Nat) : Int) 1 = ((2 * ((4611686018427387904 + s / 4) / 2) + 1 : Nat) : Int) := by
    have := bits_or_u64_nat (4611686018427387904 + s / 4) 1 (by omega) (by omega)
    rw [or_1] at this
    exact this
  have g1 : s % 4 = 0 → 4611686018427387904 + s / 4 = half2 N := fun h => by unfold half2; rw [if_pos (by omega)]; omega
  have g2 : s % 4 ≠ 0 → 2 * ((4611686018427387904 + s / 4) / 2) + 1 = half2 N := fun h => by unfold half2; rw [if_neg (by omega)]; omega
  have HG := Lib.hid (fun f (h : Gives (Ieee.double.mul (fl (half2 N : Int)) fourF) f) => sq_two h1 h2 h)
  clear h1 h2 hs hs2 e0
  by_cases h0 : s % 4 = 0
  · rw [g1 h0] at e2
    rw [h0] at e1
    generalize half2 N = M at *
    clear e3 g1 g2 h0
    go_enter Tryd.func101, Tryd.ntmps101
    go_wp2
    go_ret
    exact ⟨_, rfl, HG.out _ (mulV_gives _ _ _), (Fr.refl [] w).mulW _ _⟩
  · have h1 : (((s % 4 : Nat) : Int) == 0) = false := by rw [beq_eq_false_iff_ne]; omega
    have h2 : (((s % 4 : Nat) : Int) != 0) = true := by rw [bne_iff_ne]; omega
    rw [g2 h0] at e3
    generalize 4611686018427387904 + s / 4 = L at *
    generalize half2 N = M at *
    generalize s % 4 = q at *
    clear g1 g2 h0
    have H3 := Lib.hid e3
    clear e3
    go_enter Tryd.func101, Tryd.ntmps101
    go_wp2
    rw [H3.out]
    go_ret
    exact ⟨_, rfl, HG.out _ (mulV_gives _ _ _), (Fr.refl [] w).mulW _ _⟩
/-- What distance is: the root of the squares' sum. -/
def DistR (a b : Nat) (r : Nat) : Prop := Gives (Ieee.double.sqrt (fl ((sqs a b : Nat) : Int))) r
def D139 (w : World) (x y c h : Int) : Prop := (callFunc 139 #[.int .u64 x, .int .u64 y, .int .u64 0]).run Tryd.prog w = .ok (.value (.tuple #[.int .u64 c, .int .u64 h])) w
set_option maxRecDepth 100000 in
theorem dist_any (w : World) (px py qx qy : Int) (h1 : I32 px) (h2 : I32 py) (h3 : I32 qx) (h4 : I32 qy) :
    Calls Tryd.prog 98 #[.agg #[.int .i32 px, .int .i32 py], .agg #[.int .i32 qx, .int .i32 qy]] w (FRes (DistR (dAbs px qx) (dAbs py qy)) w) := by
  have F0 : Fr [] w ((w.alloc (.cells #[.int .i32 px, .int .i32 py] 98)).alloc (.cells #[.int .i32 qx, .int .i32 qy] 98)) := ((Fr.refl _ _).alloc _).alloc _
  have HF := Lib.hid F0
  have l1 := dAbs_le h1 h3
  have l2 := dAbs_le h2 h4
  have HL := Lib.hid (And.intro l1 l2)
  clear F0 l1 l2
  go_enter Tryd.func98, Tryd.ntmps98
  go_wp2_with fail
  go_quiet ((go_at_call 102; exact Calls.quiet_of_same (size_q _ _ _ (by assumption) (by assumption))))
  rename Nat => n1
  obtain ⟨w5, hw5⟩ : ∃ w5, w5 = ((w.alloc (.cells #[.int .i32 px, .int .i32 py] 98)).alloc (.cells #[.int .i32 qx, .int .i32 qy] 98)).drewN n1 := ⟨_, rfl⟩
  have HW := Lib.hid (show Fr [] w w5 by rw [hw5]; exact HF.out.drewN _)
  rw [← hw5]
  obtain ⟨l1, l2⟩ := HL.out
  clear hw5 HF h1 h2 h3 h4 HL
  generalize dAbs px qx = a at *
  generalize dAbs py qy = b at *
  have k1 := sq_small a l1
  have k2 := sq_small b l2
  have m1 : IntKind.u64.wrap ((a : Int) * (a : Int)) = ((a * a : Nat) : Int) := by rw [← Int.natCast_mul, IntKind.wrap_u64]; omega
  have m2 : IntKind.u64.wrap ((b : Int) * (b : Int)) = ((b * b : Nat) : Int) := by rw [← Int.natCast_mul, IntKind.wrap_u64]; omega
  have HS := Lib.hid (sqs_lt l1 l2)
  have hsq : sqs a b = a * a + b * b := rfl
  have HD := Lib.hid (show ∀ r, Gives (Ieee.double.sqrt (fl ((sqs a b : Nat) : Int))) r → DistR a b r from fun r h => h)
  by_cases hN : sqs a b < 2 ^ 64
  · have e1 : ∀ w, D139 w ((a * a : Nat) : Int) ((b * b : Nat) : Int) ((sqs a b : Nat) : Int) 0 := fun w => by
      have := ext139 w ((a * a : Nat) : Int) ((b * b : Nat) : Int) (by omega) (by omega)
      rw [show (((a * a : Nat) : Int) + ((b * b : Nat) : Int)) % 18446744073709551616 = ((sqs a b : Nat) : Int) by omega, show (((a * a : Nat) : Int) + ((b * b : Nat) : Int)) / 18446744073709551616 = 0 by omega] at this
      exact this
    generalize DistR a b = R at *
    generalize sqs a b = N at *
    generalize a * a = A at *
    generalize b * b = B at *
    clear l1 l2 k1 k2 hsq hN
    unfold D139 at e1
    go_wp2_with (go_at_call 100; (with_reducible refine (sqrt_any _ _).mono ?_); rintro e w6 ⟨r, rfl, hr, f6⟩; have H6 := Lib.hid (And.intro hr f6); clear hr f6)
    go_ret
    exact ⟨_, rfl, HD.out _ H6.out.1, HW.out.trans H6.out.2 (by simp)⟩
  · have e1 : ∀ w, D139 w ((a * a : Nat) : Int) ((b * b : Nat) : Int) ((sqs a b - 18446744073709551616 : Nat) : Int) 1 := fun w => by
      have := ext139 w ((a * a : Nat) : Int) ((b * b : Nat) : Int) (by omega) (by omega)
      rw [show (((a * a : Nat) : Int) + ((b * b : Nat) : Int)) % 18446744073709551616 = ((sqs a b - 18446744073709551616 : Nat) : Int) by omega, show (((a * a : Nat) : Int) + ((b * b : Nat) : Int)) / 18446744073709551616 = 1 by omega] at this
      exact this
    have hb := bits_half1 (sqs a b) (by omega) HS.out
    have HG := Lib.hid (fun f (h : Gives (Ieee.double.mul twoF (fl (half1 (sqs a b) : Int))) f) => sq_one (by omega) HS.out h)
    generalize DistR a b = R at *
    generalize sqs a b = N at *
    generalize a * a = A at *
    generalize b * b = B at *
    generalize half1 N = M at *
    generalize N - 18446744073709551616 = s at *
    have HB := Lib.hid hb
    clear l1 l2 k1 k2 hsq hN hb
    unfold D139 at e1
    go_wp2_with fail
    rw [HB.out]
    have HM := Lib.hid (show Fr [] w (mulW w5 4611686018427387904 (fl (M : Int))) from HW.out.mulW _ _)
    have HG2 := HG.out _ (mulV_gives w5 twoF (fl (M : Int)))
    have HR := Lib.hid (show ∀ r, Gives (Ieee.double.sqrt (mulV w5 4611686018427387904 (fl (M : Int)))) r → R r from fun r h => HD.out r (by rw [← HG2]; exact h))
    clear HG2
    (with_reducible refine (sqrt_any _ _).mono ?_)
    rintro e w6 ⟨r, rfl, hr, f6⟩
    have H6 := Lib.hid (And.intro hr f6)
    clear hr f6
    go_wp2
    go_ret
    exact ⟨_, rfl, HR.out _ H6.out.1, HM.out.trans H6.out.2 (by simp)⟩
theorem refDist_any (w : World) (px py qx qy : Int) (h1 : I32 px) (h2 : I32 py) (h3 : I32 qx) (h4 : I32 qy) :
    Calls Tryd.prog 43 #[.agg #[.int .i32 px, .int .i32 py], .agg #[.int .i32 qx, .int .i32 qy]] w (FRes (DistR (dAbs px qx) (dAbs py qy)) w) := by
  have F0 : Fr [] w ((w.alloc (.cells #[.int .i32 px, .int .i32 py] 98)).alloc (.cells #[.int .i32 qx, .int .i32 qy] 98)) := ((Fr.refl _ _).alloc _).alloc _
  have HF := Lib.hid F0
  have l1 := dAbs_le h1 h3
  have l2 := dAbs_le h2 h4
  have S1 := Lib.hid (fun w => show Calls Tryd.prog 99 #[.int .i64 (px - qx)] w fun e w' => e = .returned (.int .u64 (dAbs px qx)) ∧ w = w' from by
    have := rsize_pt w qx px h3 h1
    rwa [show dAbs qx px = dAbs px qx by unfold dAbs; omega] at this)
  have S2 := Lib.hid (fun w => show Calls Tryd.prog 99 #[.int .i64 (py - qy)] w fun e w' => e = .returned (.int .u64 (dAbs py qy)) ∧ w = w' from by
    have := rsize_pt w qy py h4 h2
    rwa [show dAbs qy py = dAbs py qy by unfold dAbs; omega] at this)
  obtain ⟨p1, p2⟩ := h1
  obtain ⟨p3, p4⟩ := h2
  obtain ⟨q1, q2⟩ := h3
  obtain ⟨q3, q4⟩ := h4
  clear F0
  generalize dAbs px qx = a at *
  generalize dAbs py qy = b at *
  have k1 := sq_small a l1
  have k2 := sq_small b l2
  have m1 : IntKind.u64.wrap ((a : Int) * (a : Int)) = ((a * a : Nat) : Int) := by rw [← Int.natCast_mul, IntKind.wrap_u64]; omega
  have m2 : IntKind.u64.wrap ((b : Int) * (b : Int)) = ((b * b : Nat) : Int) := by rw [← Int.natCast_mul, IntKind.wrap_u64]; omega
  have HS := Lib.hid (sqs_lt l1 l2)
  have hsq : sqs a b = a * a + b * b := rfl
  have HD := Lib.hid (show ∀ r, Gives (Ieee.double.sqrt (fl ((sqs a b : Nat) : Int))) r → DistR a b r from fun r h => h)
  by_cases hN : sqs a b < 2 ^ 64
  · have m3 : IntKind.u64.wrap (((a * a : Nat) : Int) + ((b * b : Nat) : Int)) = ((sqs a b : Nat) : Int) := by rw [IntKind.wrap_u64]; omega
    have m4 : ¬ sqs a b < a * a := by omega
    have m5 : ¬ ((sqs a b : Nat) : Int) < ((a * a : Nat) : Int) := by omega
    generalize DistR a b = R at *
    generalize sqs a b = N at *
    generalize a * a = A at *
    generalize b * b = B at *
    clear l1 l2 k1 k2 hsq hN
    have HC := Lib.hid (fun w => nearest_lo w N)
    go_enter Tryd.func43, Tryd.ntmps43
    go_wp2_with (first
      | (go_at_call 99; (with_reducible refine (S1.out _).mono ?_); rintro e w9 ⟨rfl, rfl⟩)
      | (go_at_call 99; (with_reducible refine (S2.out _).mono ?_); rintro e w9 ⟨rfl, rfl⟩))
    (with_reducible refine (HC.out _).mono ?_)
    rintro e w5 ⟨f, rfl, rfl, f5⟩
    have H5 := Lib.hid (HF.out.trans f5 (by simp))
    clear f5
    go_wp2_with fail
    (with_reducible refine (sqrt_any _ _).mono ?_)
    rintro e w6 ⟨r, rfl, hr, f6⟩
    have H6 := Lib.hid (And.intro hr f6)
    clear hr f6
    go_wp2
    go_ret
    exact ⟨_, rfl, HD.out _ H6.out.1, H5.out.trans H6.out.2 (by simp)⟩
  · have m3 : IntKind.u64.wrap (((a * a : Nat) : Int) + ((b * b : Nat) : Int)) = ((sqs a b - 18446744073709551616 : Nat) : Int) := by rw [IntKind.wrap_u64]; omega
    have m5 : ((sqs a b - 18446744073709551616 : Nat) : Int) < ((a * a : Nat) : Int) := by omega
    have m4 : sqs a b - 18446744073709551616 < a * a := by omega
    have HC := Lib.hid (fun w => nearest_hi w (sqs a b) (by omega) HS.out)
    generalize DistR a b = R at *
    generalize sqs a b = N at *
    generalize a * a = A at *
    generalize b * b = B at *
    generalize N - 18446744073709551616 = s at *
    clear l1 l2 k1 k2 hsq hN
    go_enter Tryd.func43, Tryd.ntmps43
    go_wp2_with (first
      | (go_at_call 99; (with_reducible refine (S1.out _).mono ?_); rintro e w9 ⟨rfl, rfl⟩)
      | (go_at_call 99; (with_reducible refine (S2.out _).mono ?_); rintro e w9 ⟨rfl, rfl⟩))
    (with_reducible refine (HC.out _).mono ?_)
    rintro e w5 ⟨f, rfl, rfl, f5⟩
    have H5 := Lib.hid (HF.out.trans f5 (by simp))
    clear f5
    go_wp2_with fail
    (with_reducible refine (sqrt_any _ _).mono ?_)
    rintro e w6 ⟨r, rfl, hr, f6⟩
    have H6 := Lib.hid (And.intro hr f6)
    clear hr f6
    go_wp2
    go_ret
    exact ⟨_, rfl, HD.out _ H6.out.1, H5.out.trans H6.out.2 (by simp)⟩
end Go.Proofs.YtgoolkgjcmdilaaDoor
namespace Go.Proofs.YtgoolkgjcmdilaaDoor
open Go.RowKit Flo
set_option linter.unusedVariables false
set_option linter.unusedSimpArgs false
attribute [local go_sem] Oper.semAt_some
theorem trackR_mk {a b n : Nat} {t t0 : Int} {old x v w d e r : Nat} (hn : t - t0 = (n : Int)) (h1 : DistR a b x) (h2 : Gives (Ieee.double.div x (fl (t - t0))) v) (h3 : Gives (Ieee.double.div (fl (t - t0)) (fl (t - t0 + 8))) w)
    (h4 : Gives (Ieee.double.sub v old) d) (h5 : Gives (Ieee.double.mul w d) e) (h6 : Gives (Ieee.double.add old e) r) : TrackR (sqs a b) n old r := by
  rw [hn] at h2 h3
  exact ⟨x, v, h1, h2, w, d, e, h3, h4, h5, h6⟩
theorem speed_old (w : World) (old : Nat) (px py qx qy t0 t : Int) (ht : t ≤ t0) :
    Calls Tryd.prog 42 #[.float .f64 old, .agg #[.int .i32 px, .int .i32 py], .agg #[.int .i32 qx, .int .i32 qy], .int .u32 t0, .int .u32 t] w (FRes (fun r => r = old) w) := by
  go_enter Tryd.func42, Tryd.ntmps42
  go_wp2
  go_ret
  exact ⟨_, rfl, rfl, ((Fr.refl _ _).alloc _).alloc _⟩
theorem rspeed_old (w : World) (old : Nat) (px py qx qy t0 t : Int) (ht : t ≤ t0) :
    Calls Tryd.prog 47 #[.float .f64 old, .agg #[.int .i32 px, .int .i32 py], .agg #[.int .i32 qx, .int .i32 qy], .int .u32 t0, .int .u32 t] w (FRes (fun r => r = old) w) := by
  go_enter Tryd.func47, Tryd.ntmps47
  go_wp2
  go_ret
  exact ⟨_, rfl, rfl, ((Fr.refl _ _).alloc _).alloc _⟩
set_option maxRecDepth 100000 in
theorem speed_new (w : World) (old : Nat) (px py qx qy t0 t : Int) (h1 : I32 px) (h2 : I32 py) (h3 : I32 qx) (h4 : I32 qy) (h0 : 0 ≤ t0) (ht : t0 < t) (hu : t ≤ 4294967295) :
    Calls Tryd.prog 42 #[.float .f64 old, .agg #[.int .i32 px, .int .i32 py], .agg #[.int .i32 qx, .int .i32 qy], .int .u32 t0, .int .u32 t] w (FRes (TrackR (sqs (dAbs px qx) (dAbs py qy)) (t - t0).toNat old) w) := by
  have F0 : Fr [] w ((w.alloc (.cells #[.int .i32 px, .int .i32 py] 98)).alloc (.cells #[.int .i32 qx, .int .i32 qy] 98)) := ((Fr.refl _ _).alloc _).alloc _
  have HF := Lib.hid F0
  have HC := Lib.hid (fun w => dist_any w px py qx qy h1 h2 h3 h4)
  have HN := Lib.hid (show t - t0 = ((t - t0).toNat : Int) by omega)
  clear F0 h1 h2 h3 h4
  go_enter Tryd.func42, Tryd.ntmps42
  go_wp2_with fail
  (with_reducible refine (HC.out _).mono ?_)
  rintro e w5 ⟨x, rfl, hx, f5⟩
  have H5 := Lib.hid (And.intro hx (HF.out.trans f5 (by simp)))
  clear f5 hx
  go_wp2
  go_ret
  exact ⟨_, rfl, trackR_mk HN.out H5.out.1 (quoV_gives _ _ _) (quoV_gives _ _ _) (subV_gives _ _ _) (mulV_gives _ _ _) (addV_gives _ _ _), by
    repeat (first | exact H5.out.2 | refine Fr.mulW ?_ _ _ | refine Fr.addW ?_ _ _ | refine Fr.subW ?_ _ _ | refine Fr.quoW ?_ _ _)⟩
set_option maxRecDepth 100000 in
theorem rspeed_new (w : World) (old : Nat) (px py qx qy t0 t : Int) (h1 : I32 px) (h2 : I32 py) (h3 : I32 qx) (h4 : I32 qy) (h0 : 0 ≤ t0) (ht : t0 < t) (hu : t ≤ 4294967295) :
    Calls Tryd.prog 47 #[.float .f64 old, .agg #[.int .i32 px, .int .i32 py], .agg #[.int .i32 qx, .int .i32 qy], .int .u32 t0, .int .u32 t] w (FRes (TrackR (sqs (dAbs px qx) (dAbs py qy)) (t - t0).toNat old) w) := by
  have F0 : Fr [] w ((w.alloc (.cells #[.int .i32 px, .int .i32 py] 98)).alloc (.cells #[.int .i32 qx, .int .i32 qy] 98)) := ((Fr.refl _ _).alloc _).alloc _
  have HF := Lib.hid F0
  have HC := Lib.hid (fun w => refDist_any w px py qx qy h1 h2 h3 h4)
  have HN := Lib.hid (show t - t0 = ((t - t0).toNat : Int) by omega)
  clear F0 h1 h2 h3 h4
  go_enter Tryd.func47, Tryd.ntmps47
  go_wp2_with fail
  (with_reducible refine (HC.out _).mono ?_)
  rintro e w5 ⟨x, rfl, hx, f5⟩
  have H5 := Lib.hid (And.intro hx (HF.out.trans f5 (by simp)))
  clear f5 hx
  go_wp2
  go_ret
  exact ⟨_, rfl, trackR_mk HN.out H5.out.1 (quoV_gives _ _ _) (quoV_gives _ _ _) (subV_gives _ _ _) (mulV_gives _ _ _) (addV_gives _ _ _), by
    repeat (first | exact H5.out.2 | refine Fr.mulW ?_ _ _ | refine Fr.addW ?_ _ _ | refine Fr.subW ?_ _ _ | refine Fr.quoW ?_ _ _)⟩
/-- The ways of a speed, times that do not rise with them. -/
def SpR (px py qx qy t0 t : Int) (old r : Nat) : Prop := if t ≤ t0 then r = old else TrackR (sqs (dAbs px qx) (dAbs py qy)) (t - t0).toNat old r
theorem speed_any (w : World) (old : Nat) (px py qx qy t0 t : Int) (h1 : I32 px) (h2 : I32 py) (h3 : I32 qx) (h4 : I32 qy) (h0 : 0 ≤ t0) (hu : t ≤ 4294967295) :
    Calls Tryd.prog 42 #[.float .f64 old, .agg #[.int .i32 px, .int .i32 py], .agg #[.int .i32 qx, .int .i32 qy], .int .u32 t0, .int .u32 t] w (FRes (SpR px py qx qy t0 t old) w) := by
  unfold SpR
  by_cases ht : t ≤ t0
  · simp only [if_pos ht]; exact speed_old w old px py qx qy t0 t ht
  · simp only [if_neg ht]; exact speed_new w old px py qx qy t0 t h1 h2 h3 h4 h0 (by omega) hu
theorem rspeed_any (w : World) (old : Nat) (px py qx qy t0 t : Int) (h1 : I32 px) (h2 : I32 py) (h3 : I32 qx) (h4 : I32 qy) (h0 : 0 ≤ t0) (hu : t ≤ 4294967295) :
    Calls Tryd.prog 47 #[.float .f64 old, .agg #[.int .i32 px, .int .i32 py], .agg #[.int .i32 qx, .int .i32 qy], .int .u32 t0, .int .u32 t] w (FRes (SpR px py qx qy t0 t old) w) := by
  unfold SpR
  by_cases ht : t ≤ t0
  · simp only [if_pos ht]; exact rspeed_old w old px py qx qy t0 t ht
  · simp only [if_neg ht]; exact rspeed_new w old px py qx qy t0 t h1 h2 h3 h4 h0 (by omega) hu
theorem spR_fe {px py qx qy t0 t : Int} {old old' r r' : Nat} (ho : FE old old') (h : SpR px py qx qy t0 t old r) (h' : SpR px py qx qy t0 t old' r') : FE r r' := by
  unfold SpR at h h'
  by_cases ht : t ≤ t0
  · rw [if_pos ht] at h h'
    rw [h, h']; exact ho
  · rw [if_neg ht] at h h'
    exact trackR_fe ho h h'
theorem same_any (w : World) (x y : Nat) (h : FE x y) : Calls Tryd.prog 46 #[.float .f64 x, .float .f64 y] w fun e w' => e = .returned (.bool true) ∧ w = w' := by
  have ha := alikeB_fe h
  unfold alikeB at ha
  clear h
  cases h1 : feq x y <;> cases h2 : feq x x <;> cases h3 : feq y y <;> rw [h1, h2, h3] at ha <;> first
    | (exact absurd ha (by decide))
    | (clear ha
       go_enter Tryd.func46, Tryd.ntmps46
       go_wp2
       go_ret
       exact ⟨rfl, rfl⟩)
end Go.Proofs.YtgoolkgjcmdilaaDoor
namespace Go.Proofs.YtgoolkgjcmdilaaDoor
open Go.RowKit Flo
set_option linter.unusedVariables false
set_option linter.unusedSimpArgs false
attribute [local go_sem] Oper.semAt_some
theorem bits40 (w : World) (n : Int) : (callFunc 40 #[.int .u64 n]).run Tryd.prog w = .ok (.value (.float .f64 n.toNat)) w := by kernel_rfl
attribute [local go_sem] bits40
end Go.Proofs.YtgoolkgjcmdilaaDoor
end
