/-
  Script: whether a step may be.
-/
import Derived.Test.YtbpgpjibljgiiaaGreatDoorLinM
namespace Go.Proofs.YtbpgpjibljgiiaaGreatDoor
open Go.RowKit
set_option linter.unusedVariables false
set_option linter.unusedSimpArgs false
attribute [local go_sem] Oper.semAt_some
namespace Sc
/-- Whether a step may be. -/
def mayS (s : St) : Bool :=
  match s.kd with
  | 1 => decide (s.la = 0) && decide (s.sl = 0) && decide (s.pl = 0)
  | 2 => decide (s.by'.length = 0) && decide (s.sl = 0) && decide (s.pl = 0)
  | 3 => decide (s.by'.length = 0) && decide (s.la = 0) && decide (s.sl = 0) && decide (s.pl = 0)
  | 4 => decide (s.by'.length = 0) && decide (s.la = 0) && decide (s.sl = 0) && decide (s.pl = 0)
  | k => decide (wordsL k ≠ []) && decide (s.by'.length = 0) && decide (s.la = 0)
section
set_option maxRecDepth 100000
set_option maxHeartbeats 4000000
theorem may_1 (w : World) (la sl pl : Int) (p : Option Addr) (n c : Nat) :
    Calls Tryz.prog 38 #[.agg #[.int .u8 1, .int .i64 la, .int .i64 sl, .int .i64 pl, .slice p n c]] w fun e w' => e = .returned (.bool (decide (la = 0) && decide (sl = 0) && decide (pl = 0))) ∧ Fr [] w w' := by
  go_enter Tryz.func38, Tryz.ntmps38
  go_wp2
  all_goals
    go_ret
    exact ⟨by simp_all <;> (rw [Bool.eq_iff_iff]; simp), (Fr.refl _ _).alloc _⟩
theorem may_2 (w : World) (la sl pl : Int) (p : Option Addr) (n c : Nat) :
    Calls Tryz.prog 38 #[.agg #[.int .u8 2, .int .i64 la, .int .i64 sl, .int .i64 pl, .slice p n c]] w fun e w' => e = .returned (.bool (decide (n = 0) && decide (sl = 0) && decide (pl = 0))) ∧ Fr [] w w' := by
  go_enter Tryz.func38, Tryz.ntmps38
  go_wp2
  all_goals
    go_ret
    exact ⟨by simp_all <;> (rw [Bool.eq_iff_iff]; simp), (Fr.refl _ _).alloc _⟩
theorem may_34 (w : World) (kd : Nat) (hk : kd = 3 ∨ kd = 4) (la sl pl : Int) (p : Option Addr) (n c : Nat) :
    Calls Tryz.prog 38 #[.agg #[.int .u8 kd, .int .i64 la, .int .i64 sl, .int .i64 pl, .slice p n c]] w fun e w' => e = .returned (.bool (decide (n = 0) && decide (la = 0) && decide (sl = 0) && decide (pl = 0))) ∧ Fr [] w w' := by
  rcases hk with rfl | rfl
  · go_enter Tryz.func38, Tryz.ntmps38
    go_wp2
    all_goals
      go_ret
      exact ⟨by simp_all <;> (rw [Bool.eq_iff_iff]; simp), (Fr.refl _ _).alloc _⟩
  · go_enter Tryz.func38, Tryz.ntmps38
    go_wp2
    all_goals
      go_ret
      exact ⟨by simp_all <;> (rw [Bool.eq_iff_iff]; simp), (Fr.refl _ _).alloc _⟩
theorem words_none (w : World) (k : Nat) (h : ¬ (1 ≤ k ∧ k ≤ 10)) : Calls Tryz.prog 54 #[.int .u8 k] w fun e w' => e = .returned (.slice none 0 0) ∧ w' = w := by
  have k1 : ((k : Int) == 1) = false := by rw [beq_eq_false_iff_ne]; omega
  have k2 : ((k : Int) == 2) = false := by rw [beq_eq_false_iff_ne]; omega
  have k3 : ((k : Int) == 3) = false := by rw [beq_eq_false_iff_ne]; omega
  have k4 : ((k : Int) == 4) = false := by rw [beq_eq_false_iff_ne]; omega
  have k5 : ((k : Int) == 5) = false := by rw [beq_eq_false_iff_ne]; omega
  have k6 : ((k : Int) == 6) = false := by rw [beq_eq_false_iff_ne]; omega
  have k7 : ((k : Int) == 7) = false := by rw [beq_eq_false_iff_ne]; omega
  have k8 : ((k : Int) == 8) = false := by rw [beq_eq_false_iff_ne]; omega
  have k9 : ((k : Int) == 9) = false := by rw [beq_eq_false_iff_ne]; omega
  have k10 : ((k : Int) == 10) = false := by rw [beq_eq_false_iff_ne]; omega
  clear h
  go_enter Tryz.func54, Tryz.ntmps54
  go_wp2
  go_ret
  exact ⟨rfl, rfl⟩
theorem wordsL_nil {k : Nat} (h : ¬ (1 ≤ k ∧ k ≤ 10)) : wordsL k = [] := by
  unfold wordsL
  split <;> first | omega | rfl
theorem wordsL_ne {k : Nat} (h : 1 ≤ k ∧ k ≤ 10) : wordsL k ≠ [] := by
  obtain ⟨a, l, h2⟩ := words_cons (k - 1) (by omega)
  rw [show k = k - 1 + 1 by omega, h2]
  simp
/-- Nil just where there are no words. -/
theorem words_is (w : World) (k : Nat) (hk : k < 256) : Calls Tryz.prog 54 #[.int .u8 k] w fun e w' => ∃ v, e = .returned v ∧ Fr [] w w' ∧ ((wordsL k = [] ∧ v = .slice none 0 0) ∨ (wordsL k ≠ [] ∧ ∃ g n, v = .slice (some ⟨g, 0, none⟩) n n)) := by
  by_cases h : 1 ≤ k ∧ k ≤ 10
  · refine (words_any w k hk).mono ?_
    rintro e w' ⟨v, h1, h2, h3⟩
    refine ⟨v, h1, h3, .inr ⟨wordsL_ne h, ?_⟩⟩
    rcases h2 with ⟨h4, _⟩ | ⟨g, h4, _⟩
    · exact absurd h4 (wordsL_ne h)
    · exact ⟨g, _, h4⟩
  · refine (words_none w k h).mono ?_
    rintro e w' ⟨h1, rfl⟩
    exact ⟨_, h1, Fr.refl _ _, .inl ⟨wordsL_nil h, rfl⟩⟩
theorem may_n (w : World) (kd : Nat) (hk : ¬ (kd = 1 ∨ kd = 2 ∨ kd = 3 ∨ kd = 4)) (h256 : kd < 256) (la sl pl : Int) (p : Option Addr) (n c : Nat) :
    Calls Tryz.prog 38 #[.agg #[.int .u8 kd, .int .i64 la, .int .i64 sl, .int .i64 pl, .slice p n c]] w fun e w' => e = .returned (.bool (decide (wordsL kd ≠ []) && decide (n = 0) && decide (la = 0))) ∧ Fr [] w w' := by
  have HW := Lib.hid (fun W => words_is W kd h256)
  have k1 : ((kd : Int) == 1) = false := by rw [beq_eq_false_iff_ne]; omega
  have k2 : ((kd : Int) == 2) = false := by rw [beq_eq_false_iff_ne]; omega
  have k3 : ((kd : Int) == 3) = false := by rw [beq_eq_false_iff_ne]; omega
  have k4 : ((kd : Int) == 4) = false := by rw [beq_eq_false_iff_ne]; omega
  obtain ⟨w0, hw0⟩ : ∃ w0, w.alloc (.cells #[.int .u8 kd, .int .i64 la, .int .i64 sl, .int .i64 pl, .slice p n c] 64) = w0 := ⟨_, rfl⟩
  have hb : Blk w0 w.heap.size #[.int .u8 kd, .int .i64 la, .int .i64 sl, .int .i64 pl, .slice p n c] 64 := by rw [← hw0]; exact Blk.new _ _ _
  have H0 := Lib.hid (And.intro hb (show Fr [] w w0 by rw [← hw0]; exact (Fr.refl _ _).alloc _))
  have HW0 := Lib.hid hw0
  clear hk h256 hw0 hb
  obtain ⟨ok, hok⟩ : ∃ ok, ok = decide (wordsL kd ≠ []) := ⟨_, rfl⟩
  have HO := Lib.hid hok
  rw [← hok]
  clear hok
  go_enter Tryz.func38, Tryz.ntmps38
  go_wp2_with fail
  (with_reducible refine (HW.out _).mono ?_)
  rintro e w1 ⟨v, rfl, f1, hv⟩
  rw [HW0.out] at f1
  have hb1 := f1.blk H0.out.1 (by simp)
  have d1 := hb1.at 1 (v := .int .i64 la) rfl
  have d4 := hb1.at 4 (v := .slice p n c) rfl
  have HF := Lib.hid (H0.out.2.trans f1 (by simp))
  clear hb1 f1
  rcases hv with ⟨hl, rfl⟩ | ⟨hl, g, m, rfl⟩
  · obtain rfl : ok = false := by rw [HO.out, hl]; rfl
    clear hl
    go_wp2
    all_goals
      go_ret
      exact ⟨by simp_all <;> (rw [Bool.eq_iff_iff]; simp), HF.out⟩
  · obtain rfl : ok = true := by rw [HO.out]; exact decide_eq_true hl
    clear hl
    go_wp2
    all_goals
      go_ret
      exact ⟨by simp_all <;> (rw [Bool.eq_iff_iff]; simp), HF.out⟩
end
theorem may_any (w : World) (s : St) (h256 : s.kd < 256) (p : Option Addr) (c : Nat) :
    Calls Tryz.prog 38 #[s.val (.slice p s.by'.length c)] w fun e w' => e = .returned (.bool (mayS s)) ∧ Fr [] w w' := by
  obtain ⟨kd, la, sl, pl, bl⟩ := s
  by_cases h1 : kd = 1
  · subst h1; exact may_1 w la sl pl p bl.length c
  by_cases h2 : kd = 2
  · subst h2; exact may_2 w la sl pl p bl.length c
  by_cases h3 : kd = 3
  · subst h3; exact may_34 w 3 (.inl rfl) la sl pl p bl.length c
  by_cases h4 : kd = 4
  · subst h4; exact may_34 w 4 (.inr rfl) la sl pl p bl.length c
  · have e : mayS ⟨kd, la, sl, pl, bl⟩ = (decide (wordsL kd ≠ []) && decide (bl.length = 0) && decide (la = 0)) := by
      unfold mayS
      split <;> first | (exfalso; simp_all; done) | rfl
    rw [e]
    exact may_n w kd (by omega) h256 la sl pl p bl.length c
end Sc
end Go.Proofs.YtbpgpjibljgiiaaGreatDoor
