/-
  Ways, roots, lengths, by contracts.
-/
import Derived.Test.YtkbcdfniocmamaaMapQ
import Derived.Deep.CutBlock
import Derived.Deep.DeepCutAuto
namespace Go.Proofs.Ytkbcdfniocmamaa
open Go.RowKit Flo
set_option linter.unusedVariables false

abbrev I32 (n : Int) : Prop := -2147483648 ≤ n ∧ n ≤ 2147483647
theorem two_blk (w : World) (a b c d : Int) : ((((w.alloc (.cells #[.int .i32 a, .int .i32 b] 64)).alloc (.cells #[.int .i32 c, .int .i32 d] 64)).cell? ⟨w.heap.size, 0, none⟩ = some (.int .i32 a) ∧ ((w.alloc (.cells #[.int .i32 a, .int .i32 b] 64)).alloc (.cells #[.int .i32 c, .int .i32 d] 64)).cell? ⟨w.heap.size, 1, none⟩ = some (.int .i32 b)) ∧ ((w.alloc (.cells #[.int .i32 a, .int .i32 b] 64)).alloc (.cells #[.int .i32 c, .int .i32 d] 64)).cell? ⟨w.heap.size + 1, 0, none⟩ = some (.int .i32 c) ∧ ((w.alloc (.cells #[.int .i32 a, .int .i32 b] 64)).alloc (.cells #[.int .i32 c, .int .i32 d] 64)).cell? ⟨w.heap.size + 1, 1, none⟩ = some (.int .i32 d)) ∧ Fr [] w ((w.alloc (.cells #[.int .i32 a, .int .i32 b] 64)).alloc (.cells #[.int .i32 c, .int .i32 d] 64)) := by
  have h0 := (Blk.new w #[.int .i32 a, .int .i32 b] 64).alloc (.cells #[.int .i32 c, .int .i32 d] 64)
  have h1 := Blk.new_at (w := w.alloc (.cells #[.int .i32 a, .int .i32 b] 64)) (k := w.heap.size + 1) (by simp) #[.int .i32 c, .int .i32 d] 64
  exact ⟨⟨⟨h0.at 0 rfl, h0.at 1 rfl⟩, h1.at 0 rfl, h1.at 1 rfl⟩, ((Fr.refl [] w).alloc _).alloc _⟩
theorem way_any (w : World) (a b c d : Int) (ha : I32 a) (hb : I32 b) (hc : I32 c) (hd : I32 d) : Calls Try.prog 62 #[.agg #[.int .i32 a, .int .i32 b], .agg #[.int .i32 c, .int .i32 d]] w fun e w' => e = .returned (.tuple #[.int .i64 (c - a), .int .i64 (d - b)]) ∧ Fr [] w w' := by
  obtain ⟨⟨⟨k0, k1⟩, k2, k3⟩, hf⟩ := two_blk w a b c d
  have F := Lib.hid hf
  have e1 : IntKind.i64.wrap a = a := wrap_i32 ha
  have e2 : IntKind.i64.wrap b = b := wrap_i32 hb
  have e3 : IntKind.i64.wrap c = c := wrap_i32 hc
  have e4 : IntKind.i64.wrap d = d := wrap_i32 hd
  have e5 : wrap64 (c - a) = c - a := IntWalk.wrap64_in _ (by omega)
  have e6 : wrap64 (d - b) = d - b := IntWalk.wrap64_in _ (by omega)
  clear hf
  go_enter Try.func62, Try.ntmps62
  go_upto_region 1 with fail
  go_quiet (fail)
  go_wp2
  go_ret2
  exact ⟨rfl, F.out.drewN _⟩
theorem refWay_any (w : World) (a b c d : Int) (ha : I32 a) (hb : I32 b) (hc : I32 c) (hd : I32 d) : Calls Try.prog 66 #[.agg #[.int .i32 a, .int .i32 b], .agg #[.int .i32 c, .int .i32 d]] w fun e w' => e = .returned (.agg #[.float .f64 (fl (c - a)), .float .f64 (fl (d - b))]) ∧ Fr [] w w' := by
  obtain ⟨⟨⟨k0, k1⟩, k2, k3⟩, hf⟩ := two_blk w a b c d
  have HB := Lib.hid (Blk.new_at (w := (w.alloc (.cells #[.int .i32 a, .int .i32 b] 64)).alloc (.cells #[.int .i32 c, .int .i32 d] 64)) (k := w.heap.size + 1 + 1) (by simp) #[.float .f64 (fl (c - a)), .float .f64 (fl (d - b))] 33)
  have F := Lib.hid (hf.alloc (.cells #[.float .f64 (fl (c - a)), .float .f64 (fl (d - b))] 33))
  have e1 : IntKind.i64.wrap a = a := wrap_i32 ha
  have e2 : IntKind.i64.wrap b = b := wrap_i32 hb
  have e3 : IntKind.i64.wrap c = c := wrap_i32 hc
  have e4 : IntKind.i64.wrap d = d := wrap_i32 hd
  have e5 : wrap64 (c - a) = c - a := IntWalk.wrap64_in _ (by omega)
  have e6 : wrap64 (d - b) = d - b := IntWalk.wrap64_in _ (by omega)
  clear hf
  go_enter Try.func66, Try.ntmps66
  go_wp2
  exact bodyPost_ret (ret_pair rfl rfl (HB.out.at 0 rfl) (HB.out.at 1 rfl)) rfl ⟨rfl, F.out⟩
/-! ### roots -/
def sqrtV (w : World) (x : Nat) : Nat := giveV (Ieee.double.sqrt x) x x w
def sqrtW (w : World) (x : Nat) : World := giveW (Ieee.double.sqrt x) w
theorem sqrtV_gives (w : World) (x : Nat) : Gives (Ieee.double.sqrt x) (sqrtV w x) := giveV_gives _ _ _ _
theorem Fr.sqrtW {S : List Nat} {a w : World} (h : Fr S a w) (x : Nat) : Fr S a (Go.Proofs.Ytkbcdfniocmamaa.sqrtW w x) := h.give _
theorem ext72_form (w : World) (x : Nat) : (callFunc 72 #[.float .f64 x]).run Try.prog w = ((do pure (.value (← Extern.MathSqrt.sqrt #[.float .f64 x]))) : Sem Next).run Try.prog w := by kernel_rfl
@[go_sem] theorem ext72 (w : World) (x : Nat) : (callFunc 72 #[.float .f64 x]).run Try.prog w = .ok (.value (.float .f64 (sqrtV w x))) (sqrtW w x) := by
  rw [ext72_form]
  have : Extern.MathSqrt.sqrt #[.float .f64 x] = (match Ieee.double.sqrt x with | some r => (pure (.float .f64 r) : Sem Value) | none => (do pure (.float .f64 (← choose (.nanBits .f64 x x))))) := rfl
  rw [this]
  unfold sqrtV sqrtW
  cases Ieee.double.sqrt x with
  | some r => rfl
  | none => rfl
theorem sqrt_any (w : World) (x : Nat) : Calls Try.prog 63 #[.float .f64 x] w (FRes (fun r => Gives (Ieee.double.sqrt x) r) w) := by
  go_enter Try.func63, Try.ntmps63
  go_wp2
  go_ret
  exact ⟨_, rfl, sqrtV_gives _ _, (Fr.refl [] w).sqrtW _⟩
/-- A length: the root of the sum of squares. -/
def LenR (m n : Int) (r : Nat) : Prop := ∃ q, SquareR (fl m) (fl n) q ∧ Gives (Ieee.double.sqrt q) r
theorem length_any (w : World) (m n : Int) : Calls Try.prog 64 #[.int .i64 m, .int .i64 n] w (FRes (LenR m n) w) := by
  go_enter Try.func64, Try.ntmps64
  go_wp2_with (go_at_call 63; refine (sqrt_any _ _).mono ?_; rintro e w1 ⟨r, rfl, h1, f1⟩; have H1 := Lib.hid (And.intro h1 f1); clear h1 f1)
  go_ret
  exact ⟨_, rfl, ⟨_, ⟨_, _, mulV_gives _ _ _, mulV_gives _ _ _, addV_gives _ _ _⟩, H1.out.1⟩, ((((Fr.refl [] w).mulW _ _).mulW _ _).addW _ _).trans H1.out.2 (by simp)⟩
theorem refLength_any (w : World) (m n : Int) : Calls Try.prog 68 #[.int .i64 m, .int .i64 n] w (FRes (LenR m n) w) := by
  go_enter Try.func68, Try.ntmps68
  go_wp2_with (go_at_call 63; refine (sqrt_any _ _).mono ?_; rintro e w1 ⟨r, rfl, h1, f1⟩; have H1 := Lib.hid (And.intro h1 f1); clear h1 f1)
  go_ret
  exact ⟨_, rfl, ⟨_, ⟨_, _, mulV_gives _ _ _, mulV_gives _ _ _, addV_gives _ _ _⟩, H1.out.1⟩, ((((Fr.refl [] w).mulW _ _).mulW _ _).addW _ _).trans H1.out.2 (by simp)⟩
/-! ### headings -/
/-- A heading, by the ways. -/
def HeadR (m n : Int) (r i : Nat) : Prop := ∃ l, LenR m n l ∧ Gives (Ieee.double.div (fl m) l) r ∧ Gives (Ieee.double.div (fl n) l) i
def HeadOut (a b c d : Int) (r i : Nat) : Prop := ((a = c ∧ b = d) ∧ r = 0 ∧ i = 0) ∨ (¬ (a = c ∧ b = d) ∧ HeadR (c - a) (d - b) r i)
theorem heading_any (w : World) (a b c d : Int) (ha : I32 a) (hb : I32 b) (hc : I32 c) (hd : I32 d) : Calls Try.prog 34 #[.agg #[.int .i32 a, .int .i32 b], .agg #[.int .i32 c, .int .i32 d]] w (CRes (HeadOut a b c d) w) := by
  obtain ⟨⟨⟨k0, k1⟩, k2, k3⟩, hf⟩ := two_blk w a b c d
  have F := Lib.hid hf
  have N := Lib.hid (fun w => way_any w a b c d ha hb hc hd)
  have HX := Lib.hid (show (a = c ∧ b = d) ↔ (c - a = 0 ∧ d - b = 0) by omega)
  clear hf ha hb hc hd
  go_enter Try.func34, Try.ntmps34
  go_wp2_with fail
  (with_reducible refine (N.out _).mono ?_)
  rintro e w1 ⟨rfl, f1⟩
  have F1 := Lib.hid (F.out.trans f1 (by simp))
  clear f1 k0 k1 k2 k3
  have EO := Lib.hid (show HeadOut a b c d = fun r i => ((a = c ∧ b = d) ∧ r = 0 ∧ i = 0) ∨ (¬ (a = c ∧ b = d) ∧ HeadR (c - a) (d - b) r i) from rfl)
  generalize HeadOut a b c d = HO at *
  generalize c - a = m at *
  generalize d - b = n at *
  by_cases h1 : m = 0
  · subst h1
    by_cases h2 : n = 0
    · subst h2
      have h3 := Lib.hid (HX.out.2 ⟨rfl, rfl⟩)
      go_wp2_with fail
      go_ret
      refine ⟨_, _, rfl, ?_, F1.out⟩
      rw [EO.out]
      exact .inl ⟨h3.out, rfl, rfl⟩
    · have h3 := Lib.hid (fun h => h2 (HX.out.1 h).2)
      go_wp2_with (go_at_call 64; refine (length_any _ _ _).mono ?_; rintro e w2 ⟨l, rfl, h2, f2⟩; have H2 := Lib.hid (And.intro h2 (F1.out.trans f2 (by simp))); clear h2 f2)
      go_ret
      refine ⟨_, _, rfl, ?_, (H2.out.2.quoW _ _).quoW _ _⟩
      rw [EO.out]
      exact .inr ⟨h3.out, _, H2.out.1, quoV_gives _ _ _, quoV_gives _ _ _⟩
  · have h3 := Lib.hid (fun h => h1 (HX.out.1 h).1)
    go_wp2_with (go_at_call 64; refine (length_any _ _ _).mono ?_; rintro e w2 ⟨l, rfl, h2, f2⟩; have H2 := Lib.hid (And.intro h2 (F1.out.trans f2 (by simp))); clear h2 f2)
    go_ret
    refine ⟨_, _, rfl, ?_, (H2.out.2.quoW _ _).quoW _ _⟩
    rw [EO.out]
    exact .inr ⟨h3.out, _, H2.out.1, quoV_gives _ _ _, quoV_gives _ _ _⟩
end Go.Proofs.Ytkbcdfniocmamaa
