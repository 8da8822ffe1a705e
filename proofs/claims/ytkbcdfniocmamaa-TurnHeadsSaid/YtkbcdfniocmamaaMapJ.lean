/-
  Nearest, number, at, of the program, by contracts.
-/
import Derived.Test.YtkbcdfniocmamaaFloP
import Derived.Test.YtkbcdfniocmamaaMapE
namespace Go.Proofs.Ytkbcdfniocmamaa
open Go.RowKit Flo
set_option linter.unusedVariables false

theorem ext71_form (w : World) (x : Nat) : (callFunc 71 #[.float .f64 x]).run Try.prog w = ((do pure (.value (← Extern.MathFloor.toIntegral "math.RoundToEven" .even #[.float .f64 x]))) : Sem Next).run Try.prog w := by kernel_rfl
theorem integral_form (x : Nat) : Extern.MathFloor.toIntegral "math.RoundToEven" .even #[.float .f64 x] = (match Ieee.double.read x with
    | .nan s t => if Ieee.double.quiet t = t then pure (.float .f64 x) else do
      let kept ← choose (.extern "math.Floor,Ceil,Trunc,RoundToEven.signallingNaN kept" 2)
      pure (.float .f64 (if kept == 1 then x else Ieee.double.write (.nan s (Ieee.double.quiet t))))
    | d => pure (.float .f64 (Ieee.double.write (d.integral .even)))) := rfl
/-- What RoundToEven answers, of any number. -/
def rteV (w : World) (x : Nat) : Nat := match Ieee.double.read x with
  | .nan s t => if Ieee.double.quiet t = t then x else if (Question.extern "math.Floor,Ceil,Trunc,RoundToEven.signallingNaN kept" 2).cut (w.tape w.drawn (.extern "math.Floor,Ceil,Trunc,RoundToEven.signallingNaN kept" 2)) == 1 then x else Ieee.double.write (.nan s (Ieee.double.quiet t))
  | d => Ieee.double.write (d.integral .even)
def rteW (w : World) (x : Nat) : World := match Ieee.double.read x with
  | .nan s t => if Ieee.double.quiet t = t then w else w.drew
  | d => w
@[go_sem] theorem ext71 (w : World) (x : Nat) : (callFunc 71 #[.float .f64 x]).run Try.prog w = .ok (.value (.float .f64 (rteV w x))) (rteW w x) := by
  rw [ext71_form, integral_form]
  unfold rteV rteW
  cases hr : Ieee.double.read x with
  | number s m e => rfl
  | infinity s => rfl
  | nan s t =>
    by_cases hq : Ieee.double.quiet t = t
    · simp only [if_pos hq]; rfl
    · simp only [if_neg hq]; rfl
theorem rteW_drew (w : World) (x : Nat) : ∃ n, rteW w x = w.drewN n := by
  unfold rteW
  split
  · split
    · exact ⟨0, rfl⟩
    · exact ⟨1, rfl⟩
  · exact ⟨0, rfl⟩
theorem Fr.rteW {S : List Nat} {a w : World} (h : Fr S a w) (x : Nat) : Fr S a (Go.Proofs.Ytkbcdfniocmamaa.rteW w x) := by
  obtain ⟨n, e⟩ := rteW_drew w x
  rw [e]
  exact h.drewN n
theorem rteV_num {x : Nat} (w : World) (h : isNaN x = false) : rteV w x = evenF x := by
  unfold rteV evenF
  unfold isNaN at h
  cases hr : Ieee.double.read x with
  | number s m e => rfl
  | infinity s => rfl
  | nan s t => rw [hr] at h; simp [Ieee.Datum.isNaN] at h
def NearOut (x : Nat) (w : World) (e : Ending) (w' : World) : Prop := e = .returned (.tuple #[.int .i32 (nearV x), .int .i64 (nearE x)]) ∧ Fr [] w w'
theorem near_nan (w : World) (x : Nat) (h : isNaN x = true) : Calls Try.prog 60 #[.float .f64 x] w (NearOut x w) := by
  have e1 : feq x x = false := by rw [feq_self, h]; rfl
  have E := Lib.hid (show nearV x = 0 ∧ nearE x = 20 from by unfold nearV nearE; rw [if_pos h, if_pos h]; exact ⟨rfl, rfl⟩)
  clear h
  go_enter Try.func60, Try.ntmps60
  go_wp2
  go_ret2
  exact ⟨by rw [E.out.1, E.out.2]; rfl, (Fr.refl [] w).rteW _⟩
theorem und21 : Try.prog.underlying 21 = some (.int .i32) := by kernel_rfl
theorem und31 : (Try.prog.underlying 31).isSome = true := by kernel_rfl
theorem near_of {x : Nat} (h : isNaN x = false) : (farB (evenF x) = true → nearV x = 0 ∧ nearE x = 21) ∧ (farB (evenF x) = false → nearE x = 0) := by
  unfold nearV nearE
  rw [h]
  exact ⟨fun k => by rw [k]; exact ⟨rfl, rfl⟩, fun k => by rw [k]; rfl⟩
theorem near_num (w : World) (x : Nat) (h : isNaN x = false) : Calls Try.prog 60 #[.float .f64 x] w (NearOut x w) := by
  have e1 : feq x x = true := by rw [feq_self, h]; rfl
  have R := (fun w => rteV_num w h)
  have E := Lib.hid (show (farB (evenF x) = true → nearV x = 0 ∧ nearE x = 21) ∧ (farB (evenF x) = false → nearE x = 0) from near_of h)
  have C := Lib.hid (near_i32 h)
  clear h
  have F := Lib.hid (show farB (evenF x) = (flt (evenF x) 13965662444467519488 || fgt (evenF x) 4742290407612743680) from rfl)
  cases h1 : flt (evenF x) 13965662444467519488 <;> cases h2 : fgt (evenF x) 4742290407612743680
  · have c := Lib.hid (C.out (by rw [F.out, h1, h2]; rfl))
    have F2 := Lib.hid (show farB (evenF x) = false by rw [F.out, h1, h2]; rfl)
    have CV : ∀ w, (convert 31 21 (.float .f64 (evenF x))).run Try.prog w = .ok (.int .i32 (nearV x)) w := fun w => run_convert_float_int _ 31 21 .f64 .i32 _ _ und31 und21 c.out
    go_enter Try.func60, Try.ntmps60
    go_wp2
    go_ret2
    exact ⟨by rw [E.out.2 F2.out]; rfl, (Fr.refl [] w).rteW _⟩
  all_goals
    have F2 := Lib.hid (show farB (evenF x) = true by rw [F.out, h1, h2]; rfl)
    go_enter Try.func60, Try.ntmps60
    go_wp2
    go_ret2
    exact ⟨by rw [(E.out.1 F2.out).1, (E.out.1 F2.out).2]; rfl, (Fr.refl [] w).rteW _⟩
theorem near_any (w : World) (x : Nat) : Calls Try.prog 60 #[.float .f64 x] w (NearOut x w) := by
  cases h : isNaN x with
  | true => exact near_nan w x h
  | false => exact near_num w x h
theorem number_any (w : World) (m n : Int) : Calls Try.prog 61 #[.int .i64 m, .int .i64 n] w fun e w' => e = .returned (.complex .f64 (fl m) (fl n)) ∧ w = w' := by
  go_enter Try.func61, Try.ntmps61
  go_wp2
  go_ret
  exact ⟨rfl, rfl⟩
theorem info64 : (Try.prog.info? 64).map (·.size) = some 2 := by kernel_rfl
theorem wrap_i32 {n : Int} (h : -2147483648 ≤ n ∧ n ≤ 2147483647) : IntKind.i64.wrap n = n := by rw [IntKind.wrap_i64]; omega
theorem ptAt_any (w : World) (m n : Int) (hm : -2147483648 ≤ m ∧ m ≤ 2147483647) (hn : -2147483648 ≤ n ∧ n ≤ 2147483647) : Calls Try.prog 59 #[.agg #[.int .i32 m, .int .i32 n]] w fun e w' => e = .returned (.complex .f64 (fl m) (fl n)) ∧ Fr [] w w' := by
  have h0 := (Blk.new w #[.int .i32 m, .int .i32 n] 64)
  have k0 := h0.at 0 (v := .int .i32 m) rfl
  have k1 := h0.at 1 (v := .int .i32 n) rfl
  have F := Lib.hid ((Fr.refl [] w).alloc (.cells #[.int .i32 m, .int .i32 n] 64))
  have e1 := wrap_i32 hm
  have e2 := wrap_i32 hn
  clear h0
  go_enter Try.func59, Try.ntmps59
  go_wp2_with (go_at_call 61; refine (number_any _ _ _).mono ?_; rintro e w9 ⟨rfl, rfl⟩)
  go_ret
  exact ⟨rfl, F.out⟩
theorem ret_pt {fn : Func} {p : Tmp} (h : fn.results = #[.cell p 64]) {W : World} {g : Nat} {u v : Value} {tmps : Array Value} (hp : tmps.getD p undef = .pointer (some ⟨g, 0, none⟩)) (h0 : W.cell? ⟨g, 0, none⟩ = some u) (h1 : W.cell? ⟨g, 1, none⟩ = some v) :
    (results fn tmps).run Try.prog W = .ok (.agg #[u, v]) W := by
  have h2 : (results fn tmps).run Try.prog W = ((asAddr (tmps.getD p undef)).run Try.prog W).andThen fun a w₁ => (loadVar 64 a).run Try.prog w₁ := by
    simp only [results, h]
    simp [Sem.run_bind, Result.andThen]
  rw [h2, hp]
  have h3 := run_loadVar_mid (P := Try.prog) W g 0 64 [u, v] _ (fun j x hx => by
    match j, hx with
    | 0, hx => simp at hx; subst hx; exact h0
    | 1, hx => simp at hx; subst hx; exact h1
    | j + 2, hx => simp at hx) Try.underlying64 rfl info64
  simp [asAddr, Result.andThen, h3]
theorem ret_pt2 {fn : Func} {p u : Tmp} (h : fn.results = #[.cell p 64, .tmp u]) {W : World} {g : Nat} {a b c : Value} {tmps : Array Value} (hp : tmps.getD p undef = .pointer (some ⟨g, 0, none⟩)) (hu : tmps.getD u undef = c) (h0 : W.cell? ⟨g, 0, none⟩ = some a) (h1 : W.cell? ⟨g, 1, none⟩ = some b) :
    (results fn tmps).run Try.prog W = .ok (.tuple #[.agg #[a, b], c]) W := by
  have h3 := run_loadVar_mid (P := Try.prog) W g 0 64 [a, b] _ (fun j x hx => by
    match j, hx with
    | 0, hx => simp at hx; subst hx; exact h0
    | 1, hx => simp at hx; subst hx; exact h1
    | j + 2, hx => simp at hx) Try.underlying64 rfl info64
  rw [results_cell_tmp h, hp, hu]
  simp [asAddr, Result.andThen, h3]
theorem lawAt_any (w : World) (m n : Int) : Calls Try.prog 58 #[.int .i32 m, .int .i32 n] w fun e w' => e = .returned (.agg #[.int .i32 m, .int .i32 n]) ∧ Fr [] w w' := by
  have hb := Blk.new_at (w := w) (k := w.heap.size) (by simp) #[.int .i32 m, .int .i32 n] 64
  have F := Lib.hid ((Fr.refl [] w).alloc (.cells #[.int .i32 m, .int .i32 n] 64))
  have HB := Lib.hid hb
  clear hb
  go_enter Try.func58, Try.ntmps58
  go_wp2
  exact bodyPost_ret (ret_pt rfl rfl (HB.out.at 0 rfl) (HB.out.at 1 rfl)) rfl ⟨rfl, F.out⟩
/-- Where a point is placed: by the parts of what it comes to. -/
def placeE (r i : Nat) : Int := if nearE r = 0 then nearE i else nearE r
def placeX (r i : Nat) : Int := if placeE r i = 0 then nearV r else 0
def placeY (r i : Nat) : Int := if placeE r i = 0 then nearV i else 0
def PlaceOut (a b c d : Nat) (m n : Int) (w : World) (e : Ending) (w' : World) : Prop :=
  ∃ r i, ApplyR a b c d (fl m) (fl n) r i ∧ e = .returned (.tuple #[.agg #[.int .i32 (placeX r i), .int .i32 (placeY r i)], .int .i64 (placeE r i)]) ∧ Fr [] w w'
end Go.Proofs.Ytkbcdfniocmamaa
