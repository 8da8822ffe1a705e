/-
  Floats, plainly: what an operation may give; numbers that are alike.
-/
import Derived.Test.YtkbcdfniocmamaaFloB
import Derived.Laws.FloatBits
namespace Flo
open Ieee

/-- What an operation may give: its word; or no number, where it has none. -/
def Gives (o : Option Nat) (r : Nat) : Prop := match o with
  | some b => r = b
  | none => isNaN r = true ∧ r < 2 ^ 64
/-- The same word, or no number both. -/
def FE (x y : Nat) : Prop := x = y ∨ (isNaN x = true ∧ isNaN y = true)
theorem FE.refl (x : Nat) : FE x x := .inl rfl
theorem FE.symm {x y : Nat} (h : FE x y) : FE y x := h.elim (fun h => .inl h.symm) (fun h => .inr ⟨h.2, h.1⟩)
theorem FE.trans {x y z : Nat} (h : FE x y) (k : FE y z) : FE x z := by
  rcases h with rfl | ⟨h1, h2⟩
  · exact k
  · rcases k with rfl | ⟨k1, k2⟩
    · exact .inr ⟨h1, h2⟩
    · exact .inr ⟨h1, k2⟩
theorem FE.nan {x y : Nat} (h : FE x y) : isNaN x = isNaN y := by
  rcases h with rfl | ⟨h1, h2⟩
  · rfl
  · rw [h1, h2]
theorem Gives.fe {o : Option Nat} {r r' : Nat} (h : Gives o r) (h' : Gives o r') : FE r r' := by
  cases o with
  | some b => exact .inl (Eq.trans h (Eq.symm h'))
  | none => exact .inr ⟨h.1, h'.1⟩
section
variable {x y x' y' : Nat}
theorem sum_nan (h : isNaN x = true ∨ isNaN y = true) : (double.read x).sum (double.read y) = none := by
  rcases h with h | h
  · obtain ⟨s, t, e⟩ := nan_form h
    rw [e]; rfl
  · obtain ⟨s, t, e⟩ := nan_form h
    rw [e]; cases double.read x <;> rfl
theorem add_nan (h : isNaN x = true ∨ isNaN y = true) : double.add x y = none := by
  unfold Format.add; rw [sum_nan h]; rfl
theorem sub_nan (h : isNaN x = true ∨ isNaN y = true) : double.sub x y = none := by
  unfold Format.sub
  rcases h with h | h
  · obtain ⟨s, t, e⟩ := nan_form h
    rw [e]; rfl
  · obtain ⟨s, t, e⟩ := nan_form h
    rw [e]; cases double.read x <;> rfl
theorem mul_nan (h : isNaN x = true ∨ isNaN y = true) : double.mul x y = none := by
  unfold Format.mul
  rcases h with h | h
  · obtain ⟨s, t, e⟩ := nan_form h
    rw [e]; rfl
  · obtain ⟨s, t, e⟩ := nan_form h
    rw [e]; cases double.read x <;> rfl
theorem div_nan (h : isNaN x = true ∨ isNaN y = true) : double.div x y = none := by
  unfold Format.div
  rcases h with h | h
  · obtain ⟨s, t, e⟩ := nan_form h
    rw [e]; rfl
  · obtain ⟨s, t, e⟩ := nan_form h
    rw [e]; cases double.read x <;> rfl
theorem sqrt_nan (h : isNaN x = true) : double.sqrt x = none := by
  unfold Format.sqrt
  obtain ⟨s, t, e⟩ := nan_form h
  rw [e]; rfl
theorem two_fe {f : Nat → Nat → Option Nat} (hf : ∀ {x y : Nat}, isNaN x = true ∨ isNaN y = true → f x y = none) {r r' : Nat} (hx : FE x x') (hy : FE y y') (h : Gives (f x y) r) (h' : Gives (f x' y') r') : FE r r' := by
  rcases hx with rfl | ⟨h1, h2⟩
  · rcases hy with rfl | ⟨k1, k2⟩
    · exact h.fe h'
    · rw [hf (.inr k1)] at h
      rw [hf (.inr k2)] at h'
      exact h.fe h'
  · rw [hf (.inl h1)] at h
    rw [hf (.inl h2)] at h'
    exact h.fe h'
theorem add_fe {r r' : Nat} (hx : FE x x') (hy : FE y y') (h : Gives (double.add x y) r) (h' : Gives (double.add x' y') r') : FE r r' := two_fe add_nan hx hy h h'
theorem sub_fe {r r' : Nat} (hx : FE x x') (hy : FE y y') (h : Gives (double.sub x y) r) (h' : Gives (double.sub x' y') r') : FE r r' := two_fe sub_nan hx hy h h'
theorem mul_fe {r r' : Nat} (hx : FE x x') (hy : FE y y') (h : Gives (double.mul x y) r) (h' : Gives (double.mul x' y') r') : FE r r' := two_fe mul_nan hx hy h h'
theorem div_fe {r r' : Nat} (hx : FE x x') (hy : FE y y') (h : Gives (double.div x y) r) (h' : Gives (double.div x' y') r') : FE r r' := two_fe div_nan hx hy h h'
theorem sqrt_fe {r r' : Nat} (hx : FE x x') (h : Gives (double.sqrt x) r) (h' : Gives (double.sqrt x') r') : FE r r' := by
  rcases hx with rfl | ⟨h1, h2⟩
  · exact h.fe h'
  · rw [sqrt_nan h1] at h
    rw [sqrt_nan h2] at h'
    exact h.fe h'

theorem width_d : double.width = 64 := by decide
theorem add_wf {r : Nat} (h : Gives (double.add x y) r) : r < 2 ^ 64 := by
  cases ho : double.add x y with
  | none => rw [ho] at h; exact h.2
  | some b => rw [ho] at h; rw [show r = b from h]; have := double.add_lt ho; rwa [width_d] at this
theorem sub_wf {r : Nat} (h : Gives (double.sub x y) r) : r < 2 ^ 64 := by
  cases ho : double.sub x y with
  | none => rw [ho] at h; exact h.2
  | some b => rw [ho] at h; rw [show r = b from h]; have := double.sub_lt ho; rwa [width_d] at this
theorem mul_wf {r : Nat} (h : Gives (double.mul x y) r) : r < 2 ^ 64 := by
  cases ho : double.mul x y with
  | none => rw [ho] at h; exact h.2
  | some b => rw [ho] at h; rw [show r = b from h]; have := double.mul_lt ho; rwa [width_d] at this
theorem div_wf {r : Nat} (h : Gives (double.div x y) r) : r < 2 ^ 64 := by
  cases ho : double.div x y with
  | none => rw [ho] at h; exact h.2
  | some b => rw [ho] at h; rw [show r = b from h]; have := double.div_lt ho; rwa [width_d] at this
theorem sqrt_wf {r : Nat} (h : Gives (double.sqrt x) r) : r < 2 ^ 64 := by
  cases ho : double.sqrt x with
  | none => rw [ho] at h; exact h.2
  | some b => rw [ho] at h; rw [show r = b from h]; have := double.sqrt_lt ho; rwa [width_d] at this

/-- Go's ==. -/
def feq (x y : Nat) : Bool := double.order x y == some .eq
theorem feq_self (x : Nat) : feq x x = !isNaN x := by
  unfold feq
  cases h : isNaN x with
  | true => rw [order_nan_l h]; rfl
  | false => rw [order_ok h h, Int.compare_eq_eq.2 rfl]; rfl
theorem feq_iff (hx : isNaN x = false) (hy : isNaN y = false) : feq x y = decide (key x = key y) := by
  unfold feq
  rw [order_ok hx hy]
  rcases Int.lt_trichotomy (key x) (key y) with h | h | h
  · rw [Int.compare_eq_lt.2 h, decide_eq_false (by omega)]; rfl
  · rw [Int.compare_eq_eq.2 h, decide_eq_true h]; rfl
  · rw [Int.compare_eq_gt.2 h, decide_eq_false (by omega)]; rfl
/-- Go's <, <=, >, >=. -/
def flt (x y : Nat) : Bool := double.order x y == some .lt
def fle (x y : Nat) : Bool := double.order x y == some .lt || double.order x y == some .eq
def fgt (x y : Nat) : Bool := double.order x y == some .gt
def fge (x y : Nat) : Bool := double.order x y == some .gt || double.order x y == some .eq
theorem flt_iff (hx : isNaN x = false) (hy : isNaN y = false) : flt x y = decide (key x < key y) := by
  unfold flt
  rw [order_ok hx hy]
  rcases Int.lt_trichotomy (key x) (key y) with h | h | h
  · rw [Int.compare_eq_lt.2 h, decide_eq_true h]; rfl
  · rw [Int.compare_eq_eq.2 h, decide_eq_false (by omega)]; rfl
  · rw [Int.compare_eq_gt.2 h, decide_eq_false (by omega)]; rfl
theorem fle_iff (hx : isNaN x = false) (hy : isNaN y = false) : fle x y = decide (key x ≤ key y) := by
  unfold fle
  rw [order_ok hx hy]
  rcases Int.lt_trichotomy (key x) (key y) with h | h | h
  · rw [Int.compare_eq_lt.2 h, decide_eq_true (by omega)]; rfl
  · rw [Int.compare_eq_eq.2 h, decide_eq_true (by omega)]; rfl
  · rw [Int.compare_eq_gt.2 h, decide_eq_false (by omega)]; rfl
theorem fgt_iff (hx : isNaN x = false) (hy : isNaN y = false) : fgt x y = decide (key y < key x) := by
  unfold fgt
  rw [order_ok hx hy]
  rcases Int.lt_trichotomy (key x) (key y) with h | h | h
  · rw [Int.compare_eq_lt.2 h, decide_eq_false (by omega)]; rfl
  · rw [Int.compare_eq_eq.2 h, decide_eq_false (by omega)]; rfl
  · rw [Int.compare_eq_gt.2 h, decide_eq_true (by omega)]; rfl
theorem fge_iff (hx : isNaN x = false) (hy : isNaN y = false) : fge x y = decide (key y ≤ key x) := by
  unfold fge
  rw [order_ok hx hy]
  rcases Int.lt_trichotomy (key x) (key y) with h | h | h
  · rw [Int.compare_eq_lt.2 h, decide_eq_false (by omega)]; rfl
  · rw [Int.compare_eq_eq.2 h, decide_eq_true (by omega)]; rfl
  · rw [Int.compare_eq_gt.2 h, decide_eq_true (by omega)]; rfl
theorem cmp_nan (h : isNaN x = true ∨ isNaN y = true) : double.order x y = none := h.elim order_nan_l order_nan_r
theorem feq_nan (h : isNaN x = true ∨ isNaN y = true) : feq x y = false := by unfold feq; rw [cmp_nan h]; rfl
theorem flt_nan (h : isNaN x = true ∨ isNaN y = true) : flt x y = false := by unfold flt; rw [cmp_nan h]; rfl
theorem fle_nan (h : isNaN x = true ∨ isNaN y = true) : fle x y = false := by unfold fle; rw [cmp_nan h]; rfl
theorem fgt_nan (h : isNaN x = true ∨ isNaN y = true) : fgt x y = false := by unfold fgt; rw [cmp_nan h]; rfl
theorem fge_nan (h : isNaN x = true ∨ isNaN y = true) : fge x y = false := by unfold fge; rw [cmp_nan h]; rfl

/-- Alike: equal, or no number both. -/
def alikeB (x y : Nat) : Bool := feq x y || (!feq x x && !feq y y)
theorem alikeB_fe (h : FE x y) : alikeB x y = true := by
  unfold alikeB
  rcases h with rfl | ⟨h1, h2⟩
  · rw [feq_self]; cases isNaN x <;> rfl
  · rw [feq_self, feq_self, h1, h2]; simp
theorem alikeB_fe2 (hx : FE x x') (hy : FE y y') : alikeB x y = alikeB x' y' := by
  unfold alikeB
  rw [feq_self, feq_self, feq_self, feq_self, hx.nan, hy.nan]
  have : feq x y = feq x' y' := by
    rcases hx with rfl | ⟨h1, h2⟩
    · rcases hy with rfl | ⟨k1, k2⟩
      · rfl
      · rw [feq_nan (.inr k1), feq_nan (.inr k2)]
    · rw [feq_nan (.inl h1), feq_nan (.inl h2)]
  rw [this]
end
end Flo
