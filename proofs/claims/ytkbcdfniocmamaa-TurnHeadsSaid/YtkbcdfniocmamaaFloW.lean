/-
  Floats in the walk: each operation as one step; what it gives.
-/
import Derived.Test.YtkbcdfniocmamaaKit
import Derived.Test.YtkbcdfniocmamaaFloC
import Derived.Test.YtkbcdfniocmamaaRows
namespace Go.Proofs.Ytkbcdfniocmamaa
open Go.RowKit Flo
set_option linter.unusedVariables false

/-- The word that is handed back; the world behind it. -/
def giveV (o : Option Nat) (x y : Nat) (w : World) : Nat := match o with
  | some r => r
  | none => (Question.nanBits .f64 x y).cut (w.tape w.drawn (.nanBits .f64 x y))
def giveW (o : Option Nat) (w : World) : World := match o with
  | some _ => w
  | none => w.drew
def addV (w : World) (x y : Nat) : Nat := giveV (Ieee.double.add x y) x y w
def addW (w : World) (x y : Nat) : World := giveW (Ieee.double.add x y) w
def subV (w : World) (x y : Nat) : Nat := giveV (Ieee.double.sub x y) x y w
def subW (w : World) (x y : Nat) : World := giveW (Ieee.double.sub x y) w
def mulV (w : World) (x y : Nat) : Nat := giveV (Ieee.double.mul x y) x y w
def mulW (w : World) (x y : Nat) : World := giveW (Ieee.double.mul x y) w
def quoV (w : World) (x y : Nat) : Nat := giveV (Ieee.double.div x y) x y w
def quoW (w : World) (x y : Nat) : World := giveW (Ieee.double.div x y) w

theorem cut_nan (x y t : Nat) : isNaN ((Question.nanBits .f64 x y).cut t) = true := by
  have e : (Question.nanBits .f64 x y).cut t = (t % 2) * 2 ^ 63 + (0x7ff0000000000000 + 1 + (t / 2) % (2 ^ 52 - 1)) := by
    show (t % 2) * 2 ^ 63 + 0x7ff0000000000000 + 1 + (t / 2) % (2 ^ 52 - 1) = _
    omega
  rw [e]
  unfold isNaN
  rw [read_def]
  have h1 : (t % 2 * 2 ^ 63 + (0x7ff0000000000000 + 1 + t / 2 % (2 ^ 52 - 1))) % 2 ^ 63 = 0x7ff0000000000000 + 1 + t / 2 % (2 ^ 52 - 1) := by omega
  rw [h1, if_neg (by omega), if_neg (by omega), if_neg (by omega)]
  rfl
theorem cut_lt (x y t : Nat) : (Question.nanBits .f64 x y).cut t < 2 ^ 64 := by
  show (t % 2) * 2 ^ 63 + 0x7ff0000000000000 + 1 + (t / 2) % (2 ^ 52 - 1) < 2 ^ 64
  omega
theorem giveV_gives (o : Option Nat) (x y : Nat) (w : World) : Gives o (giveV o x y w) := by
  cases o with
  | some r => exact rfl
  | none => exact ⟨cut_nan x y _, cut_lt x y _⟩
theorem giveW_drew (o : Option Nat) (w : World) : ∃ n, giveW o w = w.drewN n := by
  cases o with
  | some r => exact ⟨0, rfl⟩
  | none => exact ⟨1, rfl⟩
theorem addV_gives (w : World) (x y : Nat) : Gives (Ieee.double.add x y) (addV w x y) := giveV_gives _ _ _ _
theorem subV_gives (w : World) (x y : Nat) : Gives (Ieee.double.sub x y) (subV w x y) := giveV_gives _ _ _ _
theorem mulV_gives (w : World) (x y : Nat) : Gives (Ieee.double.mul x y) (mulV w x y) := giveV_gives _ _ _ _
theorem quoV_gives (w : World) (x y : Nat) : Gives (Ieee.double.div x y) (quoV w x y) := giveV_gives _ _ _ _
section
variable {P : Program} (w : World) (t : TypeId) (x y : Nat)
theorem run_give (o : Option Nat) : (match o with | some r => (pure (.float .f64 r) : Sem Value) | none => (do pure (.float .f64 (← choose (.nanBits .f64 x y))))).run P w = .ok (.float .f64 (giveV o x y w)) (giveW o w) := by
  cases o with
  | some r => rfl
  | none => rfl
theorem run_addF : (binOp .add t (.float .f64 x) (.float .f64 y)).run P w = .ok (.float .f64 (addV w x y)) (addW w x y) := by
  rw [show binOp .add t (.float .f64 x) (.float .f64 y) = Op.floatArith .add .f64 x y by rfl]
  exact run_give w x y (Ieee.double.add x y)
theorem run_subF : (binOp .sub t (.float .f64 x) (.float .f64 y)).run P w = .ok (.float .f64 (subV w x y)) (subW w x y) := by
  rw [show binOp .sub t (.float .f64 x) (.float .f64 y) = Op.floatArith .sub .f64 x y by rfl]
  exact run_give w x y (Ieee.double.sub x y)
theorem run_mulF : (binOp .mul t (.float .f64 x) (.float .f64 y)).run P w = .ok (.float .f64 (mulV w x y)) (mulW w x y) := by
  rw [show binOp .mul t (.float .f64 x) (.float .f64 y) = Op.floatArith .mul .f64 x y by rfl]
  exact run_give w x y (Ieee.double.mul x y)
theorem run_quoF : (binOp .quo t (.float .f64 x) (.float .f64 y)).run P w = .ok (.float .f64 (quoV w x y)) (quoW w x y) := by
  rw [show binOp .quo t (.float .f64 x) (.float .f64 y) = Op.floatArith .quo .f64 x y by rfl]
  exact run_give w x y (Ieee.double.div x y)
end
section
variable (w : World) (x y : Nat) (a : Addr)
theorem giveW_cell (o : Option Nat) : (giveW o w).cell? a = w.cell? a := by cases o <;> rfl
theorem giveW_frozen (o : Option Nat) : (giveW o w).frozen? a = w.frozen? a := by cases o <;> rfl
theorem giveW_size (o : Option Nat) : (giveW o w).heap.size = w.heap.size := by cases o <;> rfl
theorem addW_cell : (addW w x y).cell? a = w.cell? a := giveW_cell _ _ _
theorem subW_cell : (subW w x y).cell? a = w.cell? a := giveW_cell _ _ _
theorem mulW_cell : (mulW w x y).cell? a = w.cell? a := giveW_cell _ _ _
theorem quoW_cell : (quoW w x y).cell? a = w.cell? a := giveW_cell _ _ _
theorem addW_frozen : (addW w x y).frozen? a = w.frozen? a := giveW_frozen _ _ _
theorem subW_frozen : (subW w x y).frozen? a = w.frozen? a := giveW_frozen _ _ _
theorem mulW_frozen : (mulW w x y).frozen? a = w.frozen? a := giveW_frozen _ _ _
theorem quoW_frozen : (quoW w x y).frozen? a = w.frozen? a := giveW_frozen _ _ _
theorem addW_size : (addW w x y).heap.size = w.heap.size := giveW_size _ _
theorem subW_size : (subW w x y).heap.size = w.heap.size := giveW_size _ _
theorem mulW_size : (mulW w x y).heap.size = w.heap.size := giveW_size _ _
theorem quoW_size : (quoW w x y).heap.size = w.heap.size := giveW_size _ _
end
section
variable {S : List Nat} {a w : World}
theorem Fr.give (h : Fr S a w) (o : Option Nat) : Fr S a (giveW o w) := by cases o with | some r => exact h | none => exact h.drew
theorem Fr.addW (h : Fr S a w) (x y : Nat) : Fr S a (Go.Proofs.Ytkbcdfniocmamaa.addW w x y) := h.give _
theorem Fr.subW (h : Fr S a w) (x y : Nat) : Fr S a (Go.Proofs.Ytkbcdfniocmamaa.subW w x y) := h.give _
theorem Fr.mulW (h : Fr S a w) (x y : Nat) : Fr S a (Go.Proofs.Ytkbcdfniocmamaa.mulW w x y) := h.give _
theorem Fr.quoW (h : Fr S a w) (x y : Nat) : Fr S a (Go.Proofs.Ytkbcdfniocmamaa.quoW w x y) := h.give _
end
@[go_sem] theorem run_store_float {P : Program} {w : World} {m : Mode} (a : Addr) (k : FloatKind) (b : Nat) : (store a (.float k b) m).run P w = stored P w a (.float k b) m := run_store P w a _ m rfl
@[go_sem] theorem run_store_complex {P : Program} {w : World} {m : Mode} (a : Addr) (k : FloatKind) (b c : Nat) : (store a (.complex k b c) m).run P w = stored P w a (.complex k b c) m := run_store P w a _ m rfl
theorem cmp_eql (t : TypeId) (a b : Nat) : binOp .eql t (.float .f64 a) (.float .f64 b) = pure (.bool (feq a b)) := by rw [binOp_float_cmp_eql]; rfl
theorem cmp_neq (t : TypeId) (a b : Nat) : binOp .neq t (.float .f64 a) (.float .f64 b) = pure (.bool (!feq a b)) := by rw [binOp_float_cmp_neq]; rfl
theorem cmp_lss (t : TypeId) (a b : Nat) : binOp .lss t (.float .f64 a) (.float .f64 b) = pure (.bool (flt a b)) := by rw [binOp_float_cmp_lss]; rfl
theorem cmp_leq (t : TypeId) (a b : Nat) : binOp .leq t (.float .f64 a) (.float .f64 b) = pure (.bool (fle a b)) := by rw [binOp_float_cmp_leq]; rfl
theorem cmp_gtr (t : TypeId) (a b : Nat) : binOp .gtr t (.float .f64 a) (.float .f64 b) = pure (.bool (fgt a b)) := by rw [binOp_float_cmp_gtr]; rfl
theorem cmp_geq (t : TypeId) (a b : Nat) : binOp .geq t (.float .f64 a) (.float .f64 b) = pure (.bool (fge a b)) := by rw [binOp_float_cmp_geq]; rfl
theorem cmp_ceq {P : Program} (w : World) (t : TypeId) (a b c d : Nat) : (binOp .eql t (.complex .f64 a b) (.complex .f64 c d)).run P w = .ok (.bool (feq a c && feq b d)) w := by rw [run_eql_complex]; rfl
theorem cmp_cne {P : Program} (w : World) (t : TypeId) (a b c d : Nat) : (binOp .neq t (.complex .f64 a b) (.complex .f64 c d)).run P w = .ok (.bool !(feq a c && feq b d)) w := by rw [run_neq_complex]; rfl
attribute [go_sem ↓ high] run_addF run_subF run_mulF run_quoF cmp_eql cmp_neq cmp_lss cmp_leq cmp_gtr cmp_geq cmp_ceq cmp_cne
attribute [go_sem high] run_addF run_subF run_mulF run_quoF cmp_eql cmp_neq cmp_lss cmp_leq cmp_gtr cmp_geq cmp_ceq cmp_cne
attribute [go_sem] addW_cell subW_cell mulW_cell quoW_cell addW_frozen subW_frozen mulW_frozen quoW_frozen addW_size subW_size mulW_size quoW_size

/-! ### complex numbers: the small functions of package turn -/
/-- A product's parts. -/
def TimesR (a b c d r i : Nat) : Prop :=
  ∃ p q s t, Gives (Ieee.double.mul a c) p ∧ Gives (Ieee.double.mul b d) q ∧ Gives (Ieee.double.sub p q) r ∧ Gives (Ieee.double.mul a d) s ∧ Gives (Ieee.double.mul b c) t ∧ Gives (Ieee.double.add s t) i
def PlusR (a b c d r i : Nat) : Prop := Gives (Ieee.double.add a c) r ∧ Gives (Ieee.double.add b d) i
def MinusR (a b c d r i : Nat) : Prop := Gives (Ieee.double.sub a c) r ∧ Gives (Ieee.double.sub b d) i
theorem re_any (w : World) (a b : Nat) : Calls Try.prog 56 #[.complex .f64 a b] w fun e w' => e = .returned (.float .f64 a) ∧ w = w' := by
  go_enter Try.func56, Try.ntmps56
  go_wp2
  go_ret
  exact ⟨rfl, rfl⟩
/-- What a function on complex numbers answers. -/
def CRes (R : Nat → Nat → Prop) (w : World) (e : Ending) (w' : World) : Prop := ∃ r i, e = .returned (.complex .f64 r i) ∧ R r i ∧ Fr [] w w'
theorem times_any (w : World) (a b c d : Nat) : Calls Try.prog 42 #[.complex .f64 a b, .complex .f64 c d] w (CRes (TimesR a b c d) w) := by
  go_enter Try.func42, Try.ntmps42
  go_wp2_with (go_at_call 56; refine (re_any _ _ _).mono ?_; rintro e w9 ⟨rfl, rfl⟩)
  go_ret
  exact ⟨_, _, rfl, ⟨_, _, _, _, mulV_gives _ _ _, mulV_gives _ _ _, subV_gives _ _ _, mulV_gives _ _ _, mulV_gives _ _ _, addV_gives _ _ _⟩, (((((((Fr.refl [] w).mulW _ _).mulW _ _).subW _ _).mulW _ _).mulW _ _).addW _ _)⟩
theorem plus_any (w : World) (a b c d : Nat) : Calls Try.prog 41 #[.complex .f64 a b, .complex .f64 c d] w (CRes (PlusR a b c d) w) := by
  go_enter Try.func41, Try.ntmps41
  go_wp2_with (go_at_call 56; refine (re_any _ _ _).mono ?_; rintro e w9 ⟨rfl, rfl⟩)
  go_ret
  exact ⟨_, _, rfl, ⟨addV_gives _ _ _, addV_gives _ _ _⟩, (((Fr.refl [] w).addW _ _).addW _ _)⟩
theorem minus_any (w : World) (a b c d : Nat) : Calls Try.prog 49 #[.complex .f64 a b, .complex .f64 c d] w (CRes (MinusR a b c d) w) := by
  go_enter Try.func49, Try.ntmps49
  go_wp2_with (go_at_call 56; refine (re_any _ _ _).mono ?_; rintro e w9 ⟨rfl, rfl⟩)
  go_ret
  exact ⟨_, _, rfl, ⟨subV_gives _ _ _, subV_gives _ _ _⟩, (((Fr.refl [] w).subW _ _).subW _ _)⟩
end Go.Proofs.Ytkbcdfniocmamaa
