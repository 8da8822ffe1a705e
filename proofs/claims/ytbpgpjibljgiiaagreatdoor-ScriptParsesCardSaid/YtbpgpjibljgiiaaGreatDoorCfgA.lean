/-
  Script: whether a config's sizes may be. Printed by genCf.py.
-/
import Derived.Test.YtbpgpjibljgiiaaGreatDoorMayA
namespace Go.Proofs.YtbpgpjibljgiiaaGreatDoor
open Go.RowKit
set_option linter.unusedVariables false
set_option linter.unusedSimpArgs false
attribute [local go_sem] Oper.semAt_some
namespace Sc
/-- Each size with its bounds. -/
def sizes (v0 v1 v2 v3 v4 v5 v6 v7 v8 v9 v10 : Int) : List (Int × Int × Int) := [(v0, 1, 8), (v1, 1, 64), (v2, 1, 64), (v3, 1, 64), (v4, 1, 16), (v5, max v2 v3, 256), (v6, 1, 32), (v7, 1, 64), (v8, 1, 1000), (v9, 1, 2147483648), (v10, 0, 2)]
def allIn (l : List (Int × Int × Int)) : Bool := l.all fun x => decide (x.2.1 ≤ x.1) && decide (x.1 ≤ x.2.2)
def cfgE : List Int → Int
  | [v0, v1, v2, v3, v4, v5, v6, v7, v8, v9, v10] => if allIn (sizes v0 v1 v2 v3 v4 v5 v6 v7 v8 v9 v10) then 0 else 2
  | _ => 0
theorem run_szs0 (v0 v1 v2 v3 v4 v5 v6 v7 v8 v9 v10 m : Int) (w : World) : (Instr.index 132 (.agg #[.int .i64 v0, .int .i64 1, .int .i64 8, .int .i64 v1, .int .i64 1, .int .i64 64, .int .i64 v2, .int .i64 1, .int .i64 64, .int .i64 v3, .int .i64 1, .int .i64 64, .int .i64 v4, .int .i64 1, .int .i64 16, .int .i64 v5, .int .i64 m, .int .i64 256, .int .i64 v6, .int .i64 1, .int .i64 32, .int .i64 v7, .int .i64 1, .int .i64 64, .int .i64 v8, .int .i64 1, .int .i64 1000, .int .i64 v9, .int .i64 1, .int .i64 2147483648, .int .i64 v10, .int .i64 0, .int .i64 2]) (.int .i64 0)).run Tryz.prog w = .ok (.agg #[.int .i64 v0, .int .i64 1, .int .i64 8]) w := by kernel_rfl
theorem run_szs1 (v0 v1 v2 v3 v4 v5 v6 v7 v8 v9 v10 m : Int) (w : World) : (Instr.index 132 (.agg #[.int .i64 v0, .int .i64 1, .int .i64 8, .int .i64 v1, .int .i64 1, .int .i64 64, .int .i64 v2, .int .i64 1, .int .i64 64, .int .i64 v3, .int .i64 1, .int .i64 64, .int .i64 v4, .int .i64 1, .int .i64 16, .int .i64 v5, .int .i64 m, .int .i64 256, .int .i64 v6, .int .i64 1, .int .i64 32, .int .i64 v7, .int .i64 1, .int .i64 64, .int .i64 v8, .int .i64 1, .int .i64 1000, .int .i64 v9, .int .i64 1, .int .i64 2147483648, .int .i64 v10, .int .i64 0, .int .i64 2]) (.int .i64 1)).run Tryz.prog w = .ok (.agg #[.int .i64 v1, .int .i64 1, .int .i64 64]) w := by kernel_rfl
theorem run_szs2 (v0 v1 v2 v3 v4 v5 v6 v7 v8 v9 v10 m : Int) (w : World) : (Instr.index 132 (.agg #[.int .i64 v0, .int .i64 1, .int .i64 8, .int .i64 v1, .int .i64 1, .int .i64 64, .int .i64 v2, .int .i64 1, .int .i64 64, .int .i64 v3, .int .i64 1, .int .i64 64, .int .i64 v4, .int .i64 1, .int .i64 16, .int .i64 v5, .int .i64 m, .int .i64 256, .int .i64 v6, .int .i64 1, .int .i64 32, .int .i64 v7, .int .i64 1, .int .i64 64, .int .i64 v8, .int .i64 1, .int .i64 1000, .int .i64 v9, .int .i64 1, .int .i64 2147483648, .int .i64 v10, .int .i64 0, .int .i64 2]) (.int .i64 2)).run Tryz.prog w = .ok (.agg #[.int .i64 v2, .int .i64 1, .int .i64 64]) w := by kernel_rfl
theorem run_szs3 (v0 v1 v2 v3 v4 v5 v6 v7 v8 v9 v10 m : Int) (w : World) : (Instr.index 132 (.agg #[.int .i64 v0, .int .i64 1, .int .i64 8, .int .i64 v1, .int .i64 1, .int .i64 64, .int .i64 v2, .int .i64 1, .int .i64 64, .int .i64 v3, .int .i64 1, .int .i64 64, .int .i64 v4, .int .i64 1, .int .i64 16, .int .i64 v5, .int .i64 m, .int .i64 256, .int .i64 v6, .int .i64 1, .int .i64 32, .int .i64 v7, .int .i64 1, .int .i64 64, .int .i64 v8, .int .i64 1, .int .i64 1000, .int .i64 v9, .int .i64 1, .int .i64 2147483648, .int .i64 v10, .int .i64 0, .int .i64 2]) (.int .i64 3)).run Tryz.prog w = .ok (.agg #[.int .i64 v3, .int .i64 1, .int .i64 64]) w := by kernel_rfl
theorem run_szs4 (v0 v1 v2 v3 v4 v5 v6 v7 v8 v9 v10 m : Int) (w : World) : (Instr.index 132 (.agg #[.int .i64 v0, .int .i64 1, .int .i64 8, .int .i64 v1, .int .i64 1, .int .i64 64, .int .i64 v2, .int .i64 1, .int .i64 64, .int .i64 v3, .int .i64 1, .int .i64 64, .int .i64 v4, .int .i64 1, .int .i64 16, .int .i64 v5, .int .i64 m, .int .i64 256, .int .i64 v6, .int .i64 1, .int .i64 32, .int .i64 v7, .int .i64 1, .int .i64 64, .int .i64 v8, .int .i64 1, .int .i64 1000, .int .i64 v9, .int .i64 1, .int .i64 2147483648, .int .i64 v10, .int .i64 0, .int .i64 2]) (.int .i64 4)).run Tryz.prog w = .ok (.agg #[.int .i64 v4, .int .i64 1, .int .i64 16]) w := by kernel_rfl
theorem run_szs5 (v0 v1 v2 v3 v4 v5 v6 v7 v8 v9 v10 m : Int) (w : World) : (Instr.index 132 (.agg #[.int .i64 v0, .int .i64 1, .int .i64 8, .int .i64 v1, .int .i64 1, .int .i64 64, .int .i64 v2, .int .i64 1, .int .i64 64, .int .i64 v3, .int .i64 1, .int .i64 64, .int .i64 v4, .int .i64 1, .int .i64 16, .int .i64 v5, .int .i64 m, .int .i64 256, .int .i64 v6, .int .i64 1, .int .i64 32, .int .i64 v7, .int .i64 1, .int .i64 64, .int .i64 v8, .int .i64 1, .int .i64 1000, .int .i64 v9, .int .i64 1, .int .i64 2147483648, .int .i64 v10, .int .i64 0, .int .i64 2]) (.int .i64 5)).run Tryz.prog w = .ok (.agg #[.int .i64 v5, .int .i64 m, .int .i64 256]) w := by kernel_rfl
theorem run_szs6 (v0 v1 v2 v3 v4 v5 v6 v7 v8 v9 v10 m : Int) (w : World) : (Instr.index 132 (.agg #[.int .i64 v0, .int .i64 1, .int .i64 8, .int .i64 v1, .int .i64 1, .int .i64 64, .int .i64 v2, .int .i64 1, .int .i64 64, .int .i64 v3, .int .i64 1, .int .i64 64, .int .i64 v4, .int .i64 1, .int .i64 16, .int .i64 v5, .int .i64 m, .int .i64 256, .int .i64 v6, .int .i64 1, .int .i64 32, .int .i64 v7, .int .i64 1, .int .i64 64, .int .i64 v8, .int .i64 1, .int .i64 1000, .int .i64 v9, .int .i64 1, .int .i64 2147483648, .int .i64 v10, .int .i64 0, .int .i64 2]) (.int .i64 6)).run Tryz.prog w = .ok (.agg #[.int .i64 v6, .int .i64 1, .int .i64 32]) w := by kernel_rfl
theorem run_szs7 (v0 v1 v2 v3 v4 v5 v6 v7 v8 v9 v10 m : Int) (w : World) : (Instr.index 132 (.agg #[.int .i64 v0, .int .i64 1, .int .i64 8, .int .i64 v1, .int .i64 1, .int .i64 64, .int .i64 v2, .int .i64 1, .int .i64 64, .int .i64 v3, .int .i64 1, .int .i64 64, .int .i64 v4, .int .i64 1, .int .i64 16, .int .i64 v5, .int .i64 m, .int .i64 256, .int .i64 v6, .int .i64 1, .int .i64 32, .int .i64 v7, .int .i64 1, .int .i64 64, .int .i64 v8, .int .i64 1, .int .i64 1000, .int .i64 v9, .int .i64 1, .int .i64 2147483648, .int .i64 v10, .int .i64 0, .int .i64 2]) (.int .i64 7)).run Tryz.prog w = .ok (.agg #[.int .i64 v7, .int .i64 1, .int .i64 64]) w := by kernel_rfl
theorem run_szs8 (v0 v1 v2 v3 v4 v5 v6 v7 v8 v9 v10 m : Int) (w : World) : (Instr.index 132 (.agg #[.int .i64 v0, .int .i64 1, .int .i64 8, .int .i64 v1, .int .i64 1, .int .i64 64, .int .i64 v2, .int .i64 1, .int .i64 64, .int .i64 v3, .int .i64 1, .int .i64 64, .int .i64 v4, .int .i64 1, .int .i64 16, .int .i64 v5, .int .i64 m, .int .i64 256, .int .i64 v6, .int .i64 1, .int .i64 32, .int .i64 v7, .int .i64 1, .int .i64 64, .int .i64 v8, .int .i64 1, .int .i64 1000, .int .i64 v9, .int .i64 1, .int .i64 2147483648, .int .i64 v10, .int .i64 0, .int .i64 2]) (.int .i64 8)).run Tryz.prog w = .ok (.agg #[.int .i64 v8, .int .i64 1, .int .i64 1000]) w := by kernel_rfl
theorem run_szs9 (v0 v1 v2 v3 v4 v5 v6 v7 v8 v9 v10 m : Int) (w : World) : (Instr.index 132 (.agg #[.int .i64 v0, .int .i64 1, .int .i64 8, .int .i64 v1, .int .i64 1, .int .i64 64, .int .i64 v2, .int .i64 1, .int .i64 64, .int .i64 v3, .int .i64 1, .int .i64 64, .int .i64 v4, .int .i64 1, .int .i64 16, .int .i64 v5, .int .i64 m, .int .i64 256, .int .i64 v6, .int .i64 1, .int .i64 32, .int .i64 v7, .int .i64 1, .int .i64 64, .int .i64 v8, .int .i64 1, .int .i64 1000, .int .i64 v9, .int .i64 1, .int .i64 2147483648, .int .i64 v10, .int .i64 0, .int .i64 2]) (.int .i64 9)).run Tryz.prog w = .ok (.agg #[.int .i64 v9, .int .i64 1, .int .i64 2147483648]) w := by kernel_rfl
theorem run_szs10 (v0 v1 v2 v3 v4 v5 v6 v7 v8 v9 v10 m : Int) (w : World) : (Instr.index 132 (.agg #[.int .i64 v0, .int .i64 1, .int .i64 8, .int .i64 v1, .int .i64 1, .int .i64 64, .int .i64 v2, .int .i64 1, .int .i64 64, .int .i64 v3, .int .i64 1, .int .i64 64, .int .i64 v4, .int .i64 1, .int .i64 16, .int .i64 v5, .int .i64 m, .int .i64 256, .int .i64 v6, .int .i64 1, .int .i64 32, .int .i64 v7, .int .i64 1, .int .i64 64, .int .i64 v8, .int .i64 1, .int .i64 1000, .int .i64 v9, .int .i64 1, .int .i64 2147483648, .int .i64 v10, .int .i64 0, .int .i64 2]) (.int .i64 10)).run Tryz.prog w = .ok (.agg #[.int .i64 v10, .int .i64 0, .int .i64 2]) w := by kernel_rfl
attribute [local go_sem] run_szs0 run_szs1 run_szs2 run_szs3 run_szs4 run_szs5 run_szs6 run_szs7 run_szs8 run_szs9 run_szs10
set_option maxRecDepth 100000 in
set_option maxHeartbeats 8000000 in
theorem config_any (w : World) (v0 v1 v2 v3 v4 v5 v6 v7 v8 v9 v10 : Int) : Calls Tryz.prog 37 #[.agg #[.int .i64 v0, .int .i64 v1, .int .i64 v2, .int .i64 v3, .int .i64 v4, .int .i64 v5, .int .i64 v6, .int .i64 v7, .int .i64 v8, .int .i64 v9, .int .i64 v10]] w fun e w' => e = .returned (.int .i64 (if allIn (sizes v0 v1 v2 v3 v4 v5 v6 v7 v8 v9 v10) then 0 else 2)) ∧ Fr [] w w' := by
  obtain ⟨ok, hok⟩ : ∃ ok, ok = allIn (sizes v0 v1 v2 v3 v4 v5 v6 v7 v8 v9 v10) := ⟨_, rfl⟩
  rw [← hok]
  obtain ⟨E, hE⟩ : ∃ E : Int, E = (if ok then 0 else 2) := ⟨_, rfl⟩
  rw [← hE]
  have HEE := Lib.hid hE
  clear hE
  obtain ⟨m, hm⟩ : ∃ m, m = max v2 v3 := ⟨_, rfl⟩
  have HM := Lib.hid hm
  have HO := Lib.hid (show ok = allIn [(v0, 1, 8), (v1, 1, 64), (v2, 1, 64), (v3, 1, 64), (v4, 1, 16), (v5, m, 256), (v6, 1, 32), (v7, 1, 64), (v8, 1, 1000), (v9, 1, 2147483648), (v10, 0, 2)] from by rw [hok, hm]; rfl)
  have HF := Lib.hid ((Fr.refl [] w).alloc (.cells #[.int .i64 v0, .int .i64 v1, .int .i64 v2, .int .i64 v3, .int .i64 v4, .int .i64 v5, .int .i64 v6, .int .i64 v7, .int .i64 v8, .int .i64 v9, .int .i64 v10] 23))
  clear hok
  go_enter Tryz.func37, Tryz.ntmps37
  go_wp2_with fail
  rw [← HM.out]
  clear hm
  go_loopw [44] (fun i wr => ∃ k : Nat, i = .int .i64 k ∧ k ≤ 11 ∧ ok = allIn ([(v0, 1, 8), (v1, 1, 64), (v2, 1, 64), (v3, 1, 64), (v4, 1, 16), (v5, m, 256), (v6, 1, 32), (v7, 1, 64), (v8, 1, 1000), (v9, 1, 2147483648), (v10, 0, 2)].drop k) ∧ Fr [] w wr) (fun i _ => 11 - (match i with | .int _ q => q.toNat | _ => 0))
  case atStart => exact ⟨0, rfl, by omega, HO.out, HF.out⟩
  case round =>
    obtain ⟨k, rfl, hk, ho, hf⟩ := hrel
    obtain ⟨wi, hwi⟩ : ∃ wi : World, wi = wr := ⟨_, rfl⟩
    rw [← hwi] at hf ⊢
    clear hwi
    have HI := Lib.hid (And.intro ho hf)
    clear ho hf
    have hcs : k = 0 ∨ k = 1 ∨ k = 2 ∨ k = 3 ∨ k = 4 ∨ k = 5 ∨ k = 6 ∨ k = 7 ∨ k = 8 ∨ k = 9 ∨ k = 10 ∨ k = 11 := by omega
    rcases hcs with rfl | rfl | rfl | rfl | rfl | rfl | rfl | rfl | rfl | rfl | rfl | rfl
    rotate_right
    · have HO := Lib.hid (show ok = true from HI.out.1)
      clear hk
      go_wp2
      go_ret
      obtain rfl : E = 0 := by rw [HEE.out, HO.out]; rfl
      exact ⟨rfl, HI.out.2⟩
    · have HO := Lib.hid (show ok = ((decide (1 ≤ v0) && decide (v0 ≤ 8)) && allIn ([(v0, 1, 8), (v1, 1, 64), (v2, 1, 64), (v3, 1, 64), (v4, 1, 16), (v5, m, 256), (v6, 1, 32), (v7, 1, 64), (v8, 1, 1000), (v9, 1, 2147483648), (v10, 0, 2)].drop 1)) from HI.out.1)
      clear hk
      by_cases ha : v0 < 1
      · have d1 : decide (v0 < 1) = true := decide_eq_true ha
        have HE := Lib.hid (show ok = false by rw [HO.out, decide_eq_false (by omega : ¬ 1 ≤ v0)]; rfl)
        clear ha
        go_wp2
        go_ret
        obtain rfl : E = 2 := by rw [HEE.out, HE.out]; rfl
        exact ⟨rfl, HI.out.2.trans ((Fr.refl [] wi).alloc (.cells #[.int .i64 v0, .int .i64 1, .int .i64 8] 131)) (by simp)⟩
      · have d1 : decide (v0 < 1) = false := decide_eq_false ha
        by_cases hb : 8 < v0
        · have d2 : decide (8 < v0) = true := decide_eq_true hb
          have HE := Lib.hid (show ok = false by rw [HO.out, decide_eq_false (by omega : ¬ v0 ≤ 8), Bool.and_false]; rfl)
          clear ha hb
          go_wp2
          go_ret
          obtain rfl : E = 2 := by rw [HEE.out, HE.out]; rfl
          exact ⟨rfl, HI.out.2.trans ((Fr.refl [] wi).alloc (.cells #[.int .i64 v0, .int .i64 1, .int .i64 8] 131)) (by simp)⟩
        · have d2 : decide (8 < v0) = false := decide_eq_false hb
          have HE := Lib.hid (show ok = allIn ([(v0, 1, 8), (v1, 1, 64), (v2, 1, 64), (v3, 1, 64), (v4, 1, 16), (v5, m, 256), (v6, 1, 32), (v7, 1, 64), (v8, 1, 1000), (v9, 1, 2147483648), (v10, 0, 2)].drop 1) by rw [HO.out, decide_eq_true (by omega : 1 ≤ v0), decide_eq_true (by omega : v0 ≤ 8)]; rfl)
          clear ha hb
          go_wp2
          exact ⟨⟨1, rfl, by decide, HE.out, HI.out.2.trans ((Fr.refl [] wi).alloc (.cells #[.int .i64 v0, .int .i64 1, .int .i64 8] 131)) (by simp)⟩, by decide⟩
    · have HO := Lib.hid (show ok = ((decide (1 ≤ v1) && decide (v1 ≤ 64)) && allIn ([(v0, 1, 8), (v1, 1, 64), (v2, 1, 64), (v3, 1, 64), (v4, 1, 16), (v5, m, 256), (v6, 1, 32), (v7, 1, 64), (v8, 1, 1000), (v9, 1, 2147483648), (v10, 0, 2)].drop 2)) from HI.out.1)
      clear hk
      by_cases ha : v1 < 1
      · have d1 : decide (v1 < 1) = true := decide_eq_true ha
        have HE := Lib.hid (show ok = false by rw [HO.out, decide_eq_false (by omega : ¬ 1 ≤ v1)]; rfl)
        clear ha
        go_wp2
        go_ret
        obtain rfl : E = 2 := by rw [HEE.out, HE.out]; rfl
        exact ⟨rfl, HI.out.2.trans ((Fr.refl [] wi).alloc (.cells #[.int .i64 v1, .int .i64 1, .int .i64 64] 131)) (by simp)⟩
      · have d1 : decide (v1 < 1) = false := decide_eq_false ha
        by_cases hb : 64 < v1
        · have d2 : decide (64 < v1) = true := decide_eq_true hb
          have HE := Lib.hid (show ok = false by rw [HO.out, decide_eq_false (by omega : ¬ v1 ≤ 64), Bool.and_false]; rfl)
          clear ha hb
          go_wp2
          go_ret
          obtain rfl : E = 2 := by rw [HEE.out, HE.out]; rfl
          exact ⟨rfl, HI.out.2.trans ((Fr.refl [] wi).alloc (.cells #[.int .i64 v1, .int .i64 1, .int .i64 64] 131)) (by simp)⟩
        · have d2 : decide (64 < v1) = false := decide_eq_false hb
          have HE := Lib.hid (show ok = allIn ([(v0, 1, 8), (v1, 1, 64), (v2, 1, 64), (v3, 1, 64), (v4, 1, 16), (v5, m, 256), (v6, 1, 32), (v7, 1, 64), (v8, 1, 1000), (v9, 1, 2147483648), (v10, 0, 2)].drop 2) by rw [HO.out, decide_eq_true (by omega : 1 ≤ v1), decide_eq_true (by omega : v1 ≤ 64)]; rfl)
          clear ha hb
          go_wp2
          exact ⟨⟨2, rfl, by decide, HE.out, HI.out.2.trans ((Fr.refl [] wi).alloc (.cells #[.int .i64 v1, .int .i64 1, .int .i64 64] 131)) (by simp)⟩, by decide⟩
    · have HO := Lib.hid (show ok = ((decide (1 ≤ v2) && decide (v2 ≤ 64)) && allIn ([(v0, 1, 8), (v1, 1, 64), (v2, 1, 64), (v3, 1, 64), (v4, 1, 16), (v5, m, 256), (v6, 1, 32), (v7, 1, 64), (v8, 1, 1000), (v9, 1, 2147483648), (v10, 0, 2)].drop 3)) from HI.out.1)
      clear hk
      by_cases ha : v2 < 1
      · have d1 : decide (v2 < 1) = true := decide_eq_true ha
        have HE := Lib.hid (show ok = false by rw [HO.out, decide_eq_false (by omega : ¬ 1 ≤ v2)]; rfl)
        clear ha
        go_wp2
        go_ret
        obtain rfl : E = 2 := by rw [HEE.out, HE.out]; rfl
        exact ⟨rfl, HI.out.2.trans ((Fr.refl [] wi).alloc (.cells #[.int .i64 v2, .int .i64 1, .int .i64 64] 131)) (by simp)⟩
      · have d1 : decide (v2 < 1) = false := decide_eq_false ha
        by_cases hb : 64 < v2
        · have d2 : decide (64 < v2) = true := decide_eq_true hb
          have HE := Lib.hid (show ok = false by rw [HO.out, decide_eq_false (by omega : ¬ v2 ≤ 64), Bool.and_false]; rfl)
          clear ha hb
          go_wp2
          go_ret
          obtain rfl : E = 2 := by rw [HEE.out, HE.out]; rfl
          exact ⟨rfl, HI.out.2.trans ((Fr.refl [] wi).alloc (.cells #[.int .i64 v2, .int .i64 1, .int .i64 64] 131)) (by simp)⟩
        · have d2 : decide (64 < v2) = false := decide_eq_false hb
          have HE := Lib.hid (show ok = allIn ([(v0, 1, 8), (v1, 1, 64), (v2, 1, 64), (v3, 1, 64), (v4, 1, 16), (v5, m, 256), (v6, 1, 32), (v7, 1, 64), (v8, 1, 1000), (v9, 1, 2147483648), (v10, 0, 2)].drop 3) by rw [HO.out, decide_eq_true (by omega : 1 ≤ v2), decide_eq_true (by omega : v2 ≤ 64)]; rfl)
          clear ha hb
          go_wp2
          exact ⟨⟨3, rfl, by decide, HE.out, HI.out.2.trans ((Fr.refl [] wi).alloc (.cells #[.int .i64 v2, .int .i64 1, .int .i64 64] 131)) (by simp)⟩, by decide⟩
    · have HO := Lib.hid (show ok = ((decide (1 ≤ v3) && decide (v3 ≤ 64)) && allIn ([(v0, 1, 8), (v1, 1, 64), (v2, 1, 64), (v3, 1, 64), (v4, 1, 16), (v5, m, 256), (v6, 1, 32), (v7, 1, 64), (v8, 1, 1000), (v9, 1, 2147483648), (v10, 0, 2)].drop 4)) from HI.out.1)
      clear hk
      by_cases ha : v3 < 1
      · have d1 : decide (v3 < 1) = true := decide_eq_true ha
        have HE := Lib.hid (show ok = false by rw [HO.out, decide_eq_false (by omega : ¬ 1 ≤ v3)]; rfl)
        clear ha
        go_wp2
        go_ret
        obtain rfl : E = 2 := by rw [HEE.out, HE.out]; rfl
        exact ⟨rfl, HI.out.2.trans ((Fr.refl [] wi).alloc (.cells #[.int .i64 v3, .int .i64 1, .int .i64 64] 131)) (by simp)⟩
      · have d1 : decide (v3 < 1) = false := decide_eq_false ha
        by_cases hb : 64 < v3
        · have d2 : decide (64 < v3) = true := decide_eq_true hb
          have HE := Lib.hid (show ok = false by rw [HO.out, decide_eq_false (by omega : ¬ v3 ≤ 64), Bool.and_false]; rfl)
          clear ha hb
          go_wp2
          go_ret
          obtain rfl : E = 2 := by rw [HEE.out, HE.out]; rfl
          exact ⟨rfl, HI.out.2.trans ((Fr.refl [] wi).alloc (.cells #[.int .i64 v3, .int .i64 1, .int .i64 64] 131)) (by simp)⟩
        · have d2 : decide (64 < v3) = false := decide_eq_false hb
          have HE := Lib.hid (show ok = allIn ([(v0, 1, 8), (v1, 1, 64), (v2, 1, 64), (v3, 1, 64), (v4, 1, 16), (v5, m, 256), (v6, 1, 32), (v7, 1, 64), (v8, 1, 1000), (v9, 1, 2147483648), (v10, 0, 2)].drop 4) by rw [HO.out, decide_eq_true (by omega : 1 ≤ v3), decide_eq_true (by omega : v3 ≤ 64)]; rfl)
          clear ha hb
          go_wp2
          exact ⟨⟨4, rfl, by decide, HE.out, HI.out.2.trans ((Fr.refl [] wi).alloc (.cells #[.int .i64 v3, .int .i64 1, .int .i64 64] 131)) (by simp)⟩, by decide⟩
    · have HO := Lib.hid (show ok = ((decide (1 ≤ v4) && decide (v4 ≤ 16)) && allIn ([(v0, 1, 8), (v1, 1, 64), (v2, 1, 64), (v3, 1, 64), (v4, 1, 16), (v5, m, 256), (v6, 1, 32), (v7, 1, 64), (v8, 1, 1000), (v9, 1, 2147483648), (v10, 0, 2)].drop 5)) from HI.out.1)
      clear hk
      by_cases ha : v4 < 1
      · have d1 : decide (v4 < 1) = true := decide_eq_true ha
        have HE := Lib.hid (show ok = false by rw [HO.out, decide_eq_false (by omega : ¬ 1 ≤ v4)]; rfl)
        clear ha
        go_wp2
        go_ret
        obtain rfl : E = 2 := by rw [HEE.out, HE.out]; rfl
        exact ⟨rfl, HI.out.2.trans ((Fr.refl [] wi).alloc (.cells #[.int .i64 v4, .int .i64 1, .int .i64 16] 131)) (by simp)⟩
      · have d1 : decide (v4 < 1) = false := decide_eq_false ha
        by_cases hb : 16 < v4
        · have d2 : decide (16 < v4) = true := decide_eq_true hb
          have HE := Lib.hid (show ok = false by rw [HO.out, decide_eq_false (by omega : ¬ v4 ≤ 16), Bool.and_false]; rfl)
          clear ha hb
          go_wp2
          go_ret
          obtain rfl : E = 2 := by rw [HEE.out, HE.out]; rfl
          exact ⟨rfl, HI.out.2.trans ((Fr.refl [] wi).alloc (.cells #[.int .i64 v4, .int .i64 1, .int .i64 16] 131)) (by simp)⟩
        · have d2 : decide (16 < v4) = false := decide_eq_false hb
          have HE := Lib.hid (show ok = allIn ([(v0, 1, 8), (v1, 1, 64), (v2, 1, 64), (v3, 1, 64), (v4, 1, 16), (v5, m, 256), (v6, 1, 32), (v7, 1, 64), (v8, 1, 1000), (v9, 1, 2147483648), (v10, 0, 2)].drop 5) by rw [HO.out, decide_eq_true (by omega : 1 ≤ v4), decide_eq_true (by omega : v4 ≤ 16)]; rfl)
          clear ha hb
          go_wp2
          exact ⟨⟨5, rfl, by decide, HE.out, HI.out.2.trans ((Fr.refl [] wi).alloc (.cells #[.int .i64 v4, .int .i64 1, .int .i64 16] 131)) (by simp)⟩, by decide⟩
    · have HO := Lib.hid (show ok = ((decide (m ≤ v5) && decide (v5 ≤ 256)) && allIn ([(v0, 1, 8), (v1, 1, 64), (v2, 1, 64), (v3, 1, 64), (v4, 1, 16), (v5, m, 256), (v6, 1, 32), (v7, 1, 64), (v8, 1, 1000), (v9, 1, 2147483648), (v10, 0, 2)].drop 6)) from HI.out.1)
      clear hk
      by_cases ha : v5 < m
      · have d1 : decide (v5 < m) = true := decide_eq_true ha
        have HE := Lib.hid (show ok = false by rw [HO.out, decide_eq_false (by omega : ¬ m ≤ v5)]; rfl)
        clear ha
        go_wp2
        go_ret
        obtain rfl : E = 2 := by rw [HEE.out, HE.out]; rfl
        exact ⟨rfl, HI.out.2.trans ((Fr.refl [] wi).alloc (.cells #[.int .i64 v5, .int .i64 m, .int .i64 256] 131)) (by simp)⟩
      · have d1 : decide (v5 < m) = false := decide_eq_false ha
        by_cases hb : 256 < v5
        · have d2 : decide (256 < v5) = true := decide_eq_true hb
          have HE := Lib.hid (show ok = false by rw [HO.out, decide_eq_false (by omega : ¬ v5 ≤ 256), Bool.and_false]; rfl)
          clear ha hb
          go_wp2
          go_ret
          obtain rfl : E = 2 := by rw [HEE.out, HE.out]; rfl
          exact ⟨rfl, HI.out.2.trans ((Fr.refl [] wi).alloc (.cells #[.int .i64 v5, .int .i64 m, .int .i64 256] 131)) (by simp)⟩
        · have d2 : decide (256 < v5) = false := decide_eq_false hb
          have HE := Lib.hid (show ok = allIn ([(v0, 1, 8), (v1, 1, 64), (v2, 1, 64), (v3, 1, 64), (v4, 1, 16), (v5, m, 256), (v6, 1, 32), (v7, 1, 64), (v8, 1, 1000), (v9, 1, 2147483648), (v10, 0, 2)].drop 6) by rw [HO.out, decide_eq_true (by omega : m ≤ v5), decide_eq_true (by omega : v5 ≤ 256)]; rfl)
          clear ha hb
          go_wp2
          exact ⟨⟨6, rfl, by decide, HE.out, HI.out.2.trans ((Fr.refl [] wi).alloc (.cells #[.int .i64 v5, .int .i64 m, .int .i64 256] 131)) (by simp)⟩, by decide⟩
    · have HO := Lib.hid (show ok = ((decide (1 ≤ v6) && decide (v6 ≤ 32)) && allIn ([(v0, 1, 8), (v1, 1, 64), (v2, 1, 64), (v3, 1, 64), (v4, 1, 16), (v5, m, 256), (v6, 1, 32), (v7, 1, 64), (v8, 1, 1000), (v9, 1, 2147483648), (v10, 0, 2)].drop 7)) from HI.out.1)
      clear hk
      by_cases ha : v6 < 1
      · have d1 : decide (v6 < 1) = true := decide_eq_true ha
        have HE := Lib.hid (show ok = false by rw [HO.out, decide_eq_false (by omega : ¬ 1 ≤ v6)]; rfl)
        clear ha
        go_wp2
        go_ret
        obtain rfl : E = 2 := by rw [HEE.out, HE.out]; rfl
        exact ⟨rfl, HI.out.2.trans ((Fr.refl [] wi).alloc (.cells #[.int .i64 v6, .int .i64 1, .int .i64 32] 131)) (by simp)⟩
      · have d1 : decide (v6 < 1) = false := decide_eq_false ha
        by_cases hb : 32 < v6
        · have d2 : decide (32 < v6) = true := decide_eq_true hb
          have HE := Lib.hid (show ok = false by rw [HO.out, decide_eq_false (by omega : ¬ v6 ≤ 32), Bool.and_false]; rfl)
          clear ha hb
          go_wp2
          go_ret
          obtain rfl : E = 2 := by rw [HEE.out, HE.out]; rfl
          exact ⟨rfl, HI.out.2.trans ((Fr.refl [] wi).alloc (.cells #[.int .i64 v6, .int .i64 1, .int .i64 32] 131)) (by simp)⟩
        · have d2 : decide (32 < v6) = false := decide_eq_false hb
          have HE := Lib.hid (show ok = allIn ([(v0, 1, 8), (v1, 1, 64), (v2, 1, 64), (v3, 1, 64), (v4, 1, 16), (v5, m, 256), (v6, 1, 32), (v7, 1, 64), (v8, 1, 1000), (v9, 1, 2147483648), (v10, 0, 2)].drop 7) by rw [HO.out, decide_eq_true (by omega : 1 ≤ v6), decide_eq_true (by omega : v6 ≤ 32)]; rfl)
          clear ha hb
          go_wp2
          exact ⟨⟨7, rfl, by decide, HE.out, HI.out.2.trans ((Fr.refl [] wi).alloc (.cells #[.int .i64 v6, .int .i64 1, .int .i64 32] 131)) (by simp)⟩, by decide⟩
    · have HO := Lib.hid (show ok = ((decide (1 ≤ v7) && decide (v7 ≤ 64)) && allIn ([(v0, 1, 8), (v1, 1, 64), (v2, 1, 64), (v3, 1, 64), (v4, 1, 16), (v5, m, 256), (v6, 1, 32), (v7, 1, 64), (v8, 1, 1000), (v9, 1, 2147483648), (v10, 0, 2)].drop 8)) from HI.out.1)
      clear hk
      by_cases ha : v7 < 1
      · have d1 : decide (v7 < 1) = true := decide_eq_true ha
        have HE := Lib.hid (show ok = false by rw [HO.out, decide_eq_false (by omega : ¬ 1 ≤ v7)]; rfl)
        clear ha
        go_wp2
        go_ret
        obtain rfl : E = 2 := by rw [HEE.out, HE.out]; rfl
        exact ⟨rfl, HI.out.2.trans ((Fr.refl [] wi).alloc (.cells #[.int .i64 v7, .int .i64 1, .int .i64 64] 131)) (by simp)⟩
      · have d1 : decide (v7 < 1) = false := decide_eq_false ha
        by_cases hb : 64 < v7
        · have d2 : decide (64 < v7) = true := decide_eq_true hb
          have HE := Lib.hid (show ok = false by rw [HO.out, decide_eq_false (by omega : ¬ v7 ≤ 64), Bool.and_false]; rfl)
          clear ha hb
          go_wp2
          go_ret
          obtain rfl : E = 2 := by rw [HEE.out, HE.out]; rfl
          exact ⟨rfl, HI.out.2.trans ((Fr.refl [] wi).alloc (.cells #[.int .i64 v7, .int .i64 1, .int .i64 64] 131)) (by simp)⟩
        · have d2 : decide (64 < v7) = false := decide_eq_false hb
          have HE := Lib.hid (show ok = allIn ([(v0, 1, 8), (v1, 1, 64), (v2, 1, 64), (v3, 1, 64), (v4, 1, 16), (v5, m, 256), (v6, 1, 32), (v7, 1, 64), (v8, 1, 1000), (v9, 1, 2147483648), (v10, 0, 2)].drop 8) by rw [HO.out, decide_eq_true (by omega : 1 ≤ v7), decide_eq_true (by omega : v7 ≤ 64)]; rfl)
          clear ha hb
          go_wp2
          exact ⟨⟨8, rfl, by decide, HE.out, HI.out.2.trans ((Fr.refl [] wi).alloc (.cells #[.int .i64 v7, .int .i64 1, .int .i64 64] 131)) (by simp)⟩, by decide⟩
    · have HO := Lib.hid (show ok = ((decide (1 ≤ v8) && decide (v8 ≤ 1000)) && allIn ([(v0, 1, 8), (v1, 1, 64), (v2, 1, 64), (v3, 1, 64), (v4, 1, 16), (v5, m, 256), (v6, 1, 32), (v7, 1, 64), (v8, 1, 1000), (v9, 1, 2147483648), (v10, 0, 2)].drop 9)) from HI.out.1)
      clear hk
      by_cases ha : v8 < 1
      · have d1 : decide (v8 < 1) = true := decide_eq_true ha
        have HE := Lib.hid (show ok = false by rw [HO.out, decide_eq_false (by omega : ¬ 1 ≤ v8)]; rfl)
        clear ha
        go_wp2
        go_ret
        obtain rfl : E = 2 := by rw [HEE.out, HE.out]; rfl
        exact ⟨rfl, HI.out.2.trans ((Fr.refl [] wi).alloc (.cells #[.int .i64 v8, .int .i64 1, .int .i64 1000] 131)) (by simp)⟩
      · have d1 : decide (v8 < 1) = false := decide_eq_false ha
        by_cases hb : 1000 < v8
        · have d2 : decide (1000 < v8) = true := decide_eq_true hb
          have HE := Lib.hid (show ok = false by rw [HO.out, decide_eq_false (by omega : ¬ v8 ≤ 1000), Bool.and_false]; rfl)
          clear ha hb
          go_wp2
          go_ret
          obtain rfl : E = 2 := by rw [HEE.out, HE.out]; rfl
          exact ⟨rfl, HI.out.2.trans ((Fr.refl [] wi).alloc (.cells #[.int .i64 v8, .int .i64 1, .int .i64 1000] 131)) (by simp)⟩
        · have d2 : decide (1000 < v8) = false := decide_eq_false hb
          have HE := Lib.hid (show ok = allIn ([(v0, 1, 8), (v1, 1, 64), (v2, 1, 64), (v3, 1, 64), (v4, 1, 16), (v5, m, 256), (v6, 1, 32), (v7, 1, 64), (v8, 1, 1000), (v9, 1, 2147483648), (v10, 0, 2)].drop 9) by rw [HO.out, decide_eq_true (by omega : 1 ≤ v8), decide_eq_true (by omega : v8 ≤ 1000)]; rfl)
          clear ha hb
          go_wp2
          exact ⟨⟨9, rfl, by decide, HE.out, HI.out.2.trans ((Fr.refl [] wi).alloc (.cells #[.int .i64 v8, .int .i64 1, .int .i64 1000] 131)) (by simp)⟩, by decide⟩
    · have HO := Lib.hid (show ok = ((decide (1 ≤ v9) && decide (v9 ≤ 2147483648)) && allIn ([(v0, 1, 8), (v1, 1, 64), (v2, 1, 64), (v3, 1, 64), (v4, 1, 16), (v5, m, 256), (v6, 1, 32), (v7, 1, 64), (v8, 1, 1000), (v9, 1, 2147483648), (v10, 0, 2)].drop 10)) from HI.out.1)
      clear hk
      by_cases ha : v9 < 1
      · have d1 : decide (v9 < 1) = true := decide_eq_true ha
        have HE := Lib.hid (show ok = false by rw [HO.out, decide_eq_false (by omega : ¬ 1 ≤ v9)]; rfl)
        clear ha
        go_wp2
        go_ret
        obtain rfl : E = 2 := by rw [HEE.out, HE.out]; rfl
        exact ⟨rfl, HI.out.2.trans ((Fr.refl [] wi).alloc (.cells #[.int .i64 v9, .int .i64 1, .int .i64 2147483648] 131)) (by simp)⟩
      · have d1 : decide (v9 < 1) = false := decide_eq_false ha
        by_cases hb : 2147483648 < v9
        · have d2 : decide (2147483648 < v9) = true := decide_eq_true hb
          have HE := Lib.hid (show ok = false by rw [HO.out, decide_eq_false (by omega : ¬ v9 ≤ 2147483648), Bool.and_false]; rfl)
          clear ha hb
          go_wp2
          go_ret
          obtain rfl : E = 2 := by rw [HEE.out, HE.out]; rfl
          exact ⟨rfl, HI.out.2.trans ((Fr.refl [] wi).alloc (.cells #[.int .i64 v9, .int .i64 1, .int .i64 2147483648] 131)) (by simp)⟩
        · have d2 : decide (2147483648 < v9) = false := decide_eq_false hb
          have HE := Lib.hid (show ok = allIn ([(v0, 1, 8), (v1, 1, 64), (v2, 1, 64), (v3, 1, 64), (v4, 1, 16), (v5, m, 256), (v6, 1, 32), (v7, 1, 64), (v8, 1, 1000), (v9, 1, 2147483648), (v10, 0, 2)].drop 10) by rw [HO.out, decide_eq_true (by omega : 1 ≤ v9), decide_eq_true (by omega : v9 ≤ 2147483648)]; rfl)
          clear ha hb
          go_wp2
          exact ⟨⟨10, rfl, by decide, HE.out, HI.out.2.trans ((Fr.refl [] wi).alloc (.cells #[.int .i64 v9, .int .i64 1, .int .i64 2147483648] 131)) (by simp)⟩, by decide⟩
    · have HO := Lib.hid (show ok = ((decide (0 ≤ v10) && decide (v10 ≤ 2)) && allIn ([(v0, 1, 8), (v1, 1, 64), (v2, 1, 64), (v3, 1, 64), (v4, 1, 16), (v5, m, 256), (v6, 1, 32), (v7, 1, 64), (v8, 1, 1000), (v9, 1, 2147483648), (v10, 0, 2)].drop 11)) from HI.out.1)
      clear hk
      by_cases ha : v10 < 0
      · have d1 : decide (v10 < 0) = true := decide_eq_true ha
        have HE := Lib.hid (show ok = false by rw [HO.out, decide_eq_false (by omega : ¬ 0 ≤ v10)]; rfl)
        clear ha
        go_wp2
        go_ret
        obtain rfl : E = 2 := by rw [HEE.out, HE.out]; rfl
        exact ⟨rfl, HI.out.2.trans ((Fr.refl [] wi).alloc (.cells #[.int .i64 v10, .int .i64 0, .int .i64 2] 131)) (by simp)⟩
      · have d1 : decide (v10 < 0) = false := decide_eq_false ha
        by_cases hb : 2 < v10
        · have d2 : decide (2 < v10) = true := decide_eq_true hb
          have HE := Lib.hid (show ok = false by rw [HO.out, decide_eq_false (by omega : ¬ v10 ≤ 2), Bool.and_false]; rfl)
          clear ha hb
          go_wp2
          go_ret
          obtain rfl : E = 2 := by rw [HEE.out, HE.out]; rfl
          exact ⟨rfl, HI.out.2.trans ((Fr.refl [] wi).alloc (.cells #[.int .i64 v10, .int .i64 0, .int .i64 2] 131)) (by simp)⟩
        · have d2 : decide (2 < v10) = false := decide_eq_false hb
          have HE := Lib.hid (show ok = allIn ([(v0, 1, 8), (v1, 1, 64), (v2, 1, 64), (v3, 1, 64), (v4, 1, 16), (v5, m, 256), (v6, 1, 32), (v7, 1, 64), (v8, 1, 1000), (v9, 1, 2147483648), (v10, 0, 2)].drop 11) by rw [HO.out, decide_eq_true (by omega : 0 ≤ v10), decide_eq_true (by omega : v10 ≤ 2)]; rfl)
          clear ha hb
          go_wp2
          exact ⟨⟨11, rfl, by decide, HE.out, HI.out.2.trans ((Fr.refl [] wi).alloc (.cells #[.int .i64 v10, .int .i64 0, .int .i64 2] 131)) (by simp)⟩, by decide⟩
end Sc
end Go.Proofs.YtbpgpjibljgiiaaGreatDoor
