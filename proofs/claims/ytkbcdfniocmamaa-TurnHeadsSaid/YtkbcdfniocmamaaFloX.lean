/-
  The small functions of package turn and of its reference, by contracts: square, by, finite, Times, Plus, Minus, Square, By, Finite.
-/
import Derived.Test.YtkbcdfniocmamaaFloW
import Derived.Test.YtkbcdfniocmamaaFloD
import Derived.Deep.MidRow
import Derived.Laws.ResultCell
namespace Go.Proofs.Ytkbcdfniocmamaa
open Go.RowKit Flo
set_option linter.unusedVariables false

def SquareR (a b r : Nat) : Prop := ∃ p q, Gives (Ieee.double.mul a a) p ∧ Gives (Ieee.double.mul b b) q ∧ Gives (Ieee.double.add p q) r
def ByR (a b c d r i : Nat) : Prop :=
  ∃ m p q s t u v, SquareR c d m ∧ Gives (Ieee.double.mul a c) p ∧ Gives (Ieee.double.mul b d) q ∧ Gives (Ieee.double.add p q) s ∧ Gives (Ieee.double.mul b c) t ∧ Gives (Ieee.double.mul a d) u ∧ Gives (Ieee.double.sub t u) v ∧ Gives (Ieee.double.div s m) r ∧ Gives (Ieee.double.div v m) i
def FRes (R : Nat → Prop) (w : World) (e : Ending) (w' : World) : Prop := ∃ r, e = .returned (.float .f64 r) ∧ R r ∧ Fr [] w w'
/-- What a function on pairs answers. -/
def NRes (R : Nat → Nat → Prop) (w : World) (e : Ending) (w' : World) : Prop := ∃ r i, e = .returned (.agg #[.float .f64 r, .float .f64 i]) ∧ R r i ∧ Fr [] w w'
theorem square_any (w : World) (a b : Nat) : Calls Try.prog 45 #[.complex .f64 a b] w (FRes (SquareR a b) w) := by
  go_enter Try.func45, Try.ntmps45
  go_wp2_with (go_at_call 56; refine (re_any _ _ _).mono ?_; rintro e w9 ⟨rfl, rfl⟩)
  go_ret
  exact ⟨_, rfl, ⟨_, _, mulV_gives _ _ _, mulV_gives _ _ _, addV_gives _ _ _⟩, ((((Fr.refl [] w).mulW _ _).mulW _ _).addW _ _)⟩
theorem by_any (w : World) (a b c d : Nat) : Calls Try.prog 48 #[.complex .f64 a b, .complex .f64 c d] w (CRes (ByR a b c d) w) := by
  go_enter Try.func48, Try.ntmps48
  go_wp2_with (first
    | (go_at_call 56; refine (re_any _ _ _).mono ?_; rintro e w9 ⟨rfl, rfl⟩)
    | (go_at_call 45; refine (square_any _ _ _).mono ?_; rintro e w1 ⟨m, rfl, hm, f1⟩; have H1 := Lib.hid (And.intro hm f1); clear hm f1))
  go_ret
  exact ⟨_, _, rfl, ⟨_, _, _, _, _, _, _, H1.out.1, mulV_gives _ _ _, mulV_gives _ _ _, addV_gives _ _ _, mulV_gives _ _ _, mulV_gives _ _ _, subV_gives _ _ _, quoV_gives _ _ _, quoV_gives _ _ _⟩, by repeat (first | exact H1.out.2 | refine Fr.mulW ?_ _ _ | refine Fr.addW ?_ _ _ | refine Fr.subW ?_ _ _ | refine Fr.quoW ?_ _ _)⟩
theorem refSquare_any (w : World) (a b : Nat) : Calls Try.prog 50 #[.agg #[.float .f64 a, .float .f64 b]] w (FRes (SquareR a b) w) := by
  go_enter Try.func50, Try.ntmps50
  go_wp2
  go_ret
  exact ⟨_, rfl, ⟨_, _, mulV_gives _ _ _, mulV_gives _ _ _, addV_gives _ _ _⟩, (((((Fr.refl [] w).alloc _).mulW _ _).mulW _ _).addW _ _)⟩
/-! ### pairs that are answered -/
theorem info33 : (Try.prog.info? 33).map (·.size) = some 2 := by kernel_rfl
/-- A pair laid into its block: two cells. -/
def lay2 (W : World) (g : Nat) (u v : Value) : World := (W.setCell ⟨g, 0, none⟩ u).setCell ⟨g, 1, none⟩ v
theorem lay2_cells {W : World} {g : Nat} {c : Array Value} {e : TypeId} (h : Blk W g c e) (hc : 2 ≤ c.size) (u v : Value) : (lay2 W g u v).cell? ⟨g, 0, none⟩ = some u ∧ (lay2 W g u v).cell? ⟨g, 1, none⟩ = some v := by
  have hb := (h.set 0 u).set 1 v
  refine ⟨hb.at 0 ?_, hb.at 1 ?_⟩
  · rw [Array.getElem?_setIfInBounds_ne (by omega), Array.getElem?_setIfInBounds_self_of_lt (by omega)]
  · rw [Array.getElem?_setIfInBounds_self_of_lt (by simp; omega)]
theorem ret_pair {fn : Func} {p : Tmp} (h : fn.results = #[.cell p 33]) {W : World} {g : Nat} {u v : Value} {tmps : Array Value} (hp : tmps.getD p undef = .pointer (some ⟨g, 0, none⟩)) (h0 : W.cell? ⟨g, 0, none⟩ = some u) (h1 : W.cell? ⟨g, 1, none⟩ = some v) :
    (results fn tmps).run Try.prog W = .ok (.agg #[u, v]) W := by
  have h2 : (results fn tmps).run Try.prog W = ((asAddr (tmps.getD p undef)).run Try.prog W).andThen fun a w₁ => (loadVar 33 a).run Try.prog w₁ := by
    simp only [results, h]
    simp [Sem.run_bind, Result.andThen]
  rw [h2, hp]
  have h3 := run_loadVar_mid (P := Try.prog) W g 0 33 [u, v] _ (fun j x hx => by
    match j, hx with
    | 0, hx => simp at hx; subst hx; exact h0
    | 1, hx => simp at hx; subst hx; exact h1
    | j + 2, hx => simp at hx) Try.underlying33 rfl info33
  simp [asAddr, Result.andThen, h3]
theorem Fr.lay2 {S : List Nat} {a W : World} (h : Fr S a W) (g : Nat) (u v : Value) (hg : g ∈ S ∨ a.heap.size ≤ g) : Fr S a (Go.Proofs.Ytkbcdfniocmamaa.lay2 W g u v) := (h.setCell _ _ hg).setCell _ _ hg
section
variable {w : World} {b : Nat} {c : Array Value} {e : TypeId}
theorem Blk.give (h : Blk w b c e) (o : Option Nat) : Blk (giveW o w) b c e := by cases o with | some r => exact h | none => exact h.drew
end
/-- The three blocks of a function on two pairs. -/
theorem three_blk (w : World) (x y z : Array Value) (t : TypeId) : Blk (((w.alloc (.cells x 33)).alloc (.cells y 33)).alloc (.cells z t)) (w.heap.size + 1 + 1) z t ∧ Fr [] w (((w.alloc (.cells x 33)).alloc (.cells y 33)).alloc (.cells z t)) :=
  ⟨Blk.new_at (by simp) _ _, (((Fr.refl [] w).alloc _).alloc _).alloc _⟩
theorem refTimes_any (w : World) (a b c d : Nat) : Calls Try.prog 44 #[.agg #[.float .f64 a, .float .f64 b], .agg #[.float .f64 c, .float .f64 d]] w (NRes (TimesR a b c d) w) := by
  obtain ⟨hb, hf⟩ := three_blk w #[.float .f64 a, .float .f64 b] #[.float .f64 c, .float .f64 d] #[.float .f64 0, .float .f64 0] 33
  have HB := Lib.hid hb
  have HF := Lib.hid hf
  clear hb hf
  go_enter Try.func44, Try.ntmps44
  go_wp2
  obtain ⟨h0, h1⟩ := lay2_cells ((((((HB.out.give _).give _).give _).give _).give _).give _) (by simp) _ _
  exact bodyPost_ret (ret_pair rfl rfl h0 h1) rfl ⟨_, _, rfl, ⟨_, _, _, _, mulV_gives _ _ _, mulV_gives _ _ _, subV_gives _ _ _, mulV_gives _ _ _, mulV_gives _ _ _, addV_gives _ _ _⟩, Fr.lay2 ((((((HF.out.mulW _ _).mulW _ _).mulW _ _).mulW _ _).subW _ _).addW _ _) _ _ _ (.inr (by omega))⟩
theorem refPlus_any (w : World) (a b c d : Nat) : Calls Try.prog 43 #[.agg #[.float .f64 a, .float .f64 b], .agg #[.float .f64 c, .float .f64 d]] w (NRes (PlusR a b c d) w) := by
  obtain ⟨hb, hf⟩ := three_blk w #[.float .f64 a, .float .f64 b] #[.float .f64 c, .float .f64 d] #[.float .f64 0, .float .f64 0] 33
  have HB := Lib.hid hb
  have HF := Lib.hid hf
  clear hb hf
  go_enter Try.func43, Try.ntmps43
  go_wp2
  obtain ⟨h0, h1⟩ := lay2_cells ((HB.out.give _).give _) (by simp) _ _
  exact bodyPost_ret (ret_pair rfl rfl h0 h1) rfl ⟨_, _, rfl, ⟨addV_gives _ _ _, addV_gives _ _ _⟩, Fr.lay2 ((HF.out.addW _ _).addW _ _) _ _ _ (.inr (by omega))⟩
theorem refMinus_any (w : World) (a b c d : Nat) : Calls Try.prog 54 #[.agg #[.float .f64 a, .float .f64 b], .agg #[.float .f64 c, .float .f64 d]] w (NRes (MinusR a b c d) w) := by
  obtain ⟨hb, hf⟩ := three_blk w #[.float .f64 a, .float .f64 b] #[.float .f64 c, .float .f64 d] #[.float .f64 0, .float .f64 0] 33
  have HB := Lib.hid hb
  have HF := Lib.hid hf
  clear hb hf
  go_enter Try.func54, Try.ntmps54
  go_wp2
  obtain ⟨h0, h1⟩ := lay2_cells ((HB.out.give _).give _) (by simp) _ _
  exact bodyPost_ret (ret_pair rfl rfl h0 h1) rfl ⟨_, _, rfl, ⟨subV_gives _ _ _, subV_gives _ _ _⟩, Fr.lay2 ((HF.out.subW _ _).subW _ _) _ _ _ (.inr (by omega))⟩
theorem refBy_any (w : World) (a b c d : Nat) : Calls Try.prog 53 #[.agg #[.float .f64 a, .float .f64 b], .agg #[.float .f64 c, .float .f64 d]] w (NRes (ByR a b c d) w) := by
  obtain ⟨hb, hf⟩ := three_blk w #[.float .f64 a, .float .f64 b] #[.float .f64 c, .float .f64 d] #[.float .f64 0, .float .f64 0] 33
  have hx := ((Blk.new w #[.float .f64 a, .float .f64 b] 33).alloc (.cells #[.float .f64 c, .float .f64 d] 33)).alloc (.cells #[.float .f64 0, .float .f64 0] 33)
  have hy := (Blk.new_at (w := w.alloc (.cells #[.float .f64 a, .float .f64 b] 33)) (k := w.heap.size + 1) (by simp) #[.float .f64 c, .float .f64 d] 33).alloc (.cells #[.float .f64 0, .float .f64 0] 33)
  have HB := Lib.hid (And.intro hb (And.intro hx hy))
  have HF := Lib.hid hf
  have c0 := hy.at 0 (v := .float .f64 c) rfl
  have c1 := hy.at 1 (v := .float .f64 d) rfl
  clear hb hf hx hy
  go_enter Try.func53, Try.ntmps53
  go_wp2_with fail
  generalize (World.alloc (World.alloc (World.alloc w _) _) _) = w3 at *
  (with_reducible refine (refSquare_any _ _ _).mono ?_)
  rintro e w4 ⟨m, rfl, hm, f4⟩
  obtain ⟨hb, hx, hy⟩ := HB.out
  have hb4 := f4.blk hb (by simp)
  have hx4 := f4.blk hx (by simp)
  have hy4 := f4.blk hy (by simp)
  have a0 := hx4.at 0 (v := .float .f64 a) rfl
  have a1 := hx4.at 1 (v := .float .f64 b) rfl
  have c0 := hy4.at 0 (v := .float .f64 c) rfl
  have c1 := hy4.at 1 (v := .float .f64 d) rfl
  have z0 := hb4.at 0 (v := .float .f64 0) rfl
  have z1 := hb4.at 1 (v := .float .f64 0) rfl
  have y0 := hb4.free 0
  have y1 := hb4.free 1
  have H4 := Lib.hid (And.intro hm (And.intro (HF.out.trans f4 (by simp)) hb4))
  clear hb hx hy hb4 hx4 hy4 hm f4
  go_wp2
  obtain ⟨h0, h1⟩ := lay2_cells ((((((((H4.out.2.2.give _).give _).give _).give _).give _).give _).give _).give _) (by simp) _ _
  refine bodyPost_ret (ret_pair rfl rfl h0 h1) rfl ⟨_, _, rfl, ⟨_, _, _, _, _, _, _, H4.out.1, mulV_gives _ _ _, mulV_gives _ _ _, addV_gives _ _ _, mulV_gives _ _ _, mulV_gives _ _ _, subV_gives _ _ _, quoV_gives _ _ _, quoV_gives _ _ _⟩, Fr.lay2 ?_ _ _ _ (.inr (by omega))⟩
  repeat (first | exact H4.out.2.1 | refine Fr.mulW ?_ _ _ | refine Fr.addW ?_ _ _ | refine Fr.subW ?_ _ _ | refine Fr.quoW ?_ _ _)
theorem refFin_any (w : World) (x : Nat) : Calls Try.prog 52 #[.float .f64 x] w fun e w' => e = .returned (.bool (finB x)) ∧ w = w' := by
  have H := Lib.hid (show finB x = (fle x 9218868437227405311 && fge x 18442240474082181119) from rfl)
  generalize h1 : fle x 9218868437227405311 = b1 at *
  generalize h2 : fge x 18442240474082181119 = b2 at *
  go_enter Try.func52, Try.ntmps52
  cases b1 with
  | false =>
    go_wp2
    go_ret
    exact ⟨by rw [H.out]; rfl, rfl⟩
  | true =>
    go_wp2
    go_ret
    exact ⟨by rw [H.out]; rfl, rfl⟩
end Go.Proofs.Ytkbcdfniocmamaa
