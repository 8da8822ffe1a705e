/-
  Headings: Heading of both.
-/
import Derived.Test.YtgoolkgjcmdilaaDoorHedB
import Derived.Test.YtgoolkgjcmdilaaDoorTraE
namespace Go.Proofs.YtgoolkgjcmdilaaDoor
open Go.RowKit Hed
set_option linter.unusedVariables false
set_option linter.unusedSimpArgs false
attribute [local go_sem] Oper.semAt_some

theorem dAbs_le {a b : Int} (ha : I32 a) (hb : I32 b) : dAbs a b ≤ 4294967295 := by
  obtain ⟨a1, a2⟩ := ha
  obtain ⟨b1, b2⟩ := hb
  unfold dAbs
  omega
theorem size_q (w : World) (a b : Int) (ha : I32 a) (hb : I32 b) : Calls Tryd.prog 102 #[.int .i32 a, .int .i32 b] w fun e w' => e = .returned (.int .u64 (dAbs a b)) ∧ w' = w :=
  (size_any w a b ha hb).mono fun _ _ ⟨h1, h2⟩ => ⟨h1, h2.symm⟩
theorem flat_0 (w : World) (b : Nat) : Calls Tryd.prog 104 #[.int .u64 0, .int .u64 b] w fun e w' => e = .returned (.bool false) ∧ w = w' := by
  have := flat_any w 0 b (by omega)
  rwa [flatB_le (Nat.zero_le b)] at this
theorem flat_b0 (w : World) (b : Nat) (h0 : ((b : Int) == 0) = false) (hb : b ≤ 4294967295) : Calls Tryd.prog 104 #[.int .u64 b, .int .u64 0] w fun e w' => e = .returned (.bool true) ∧ w = w' := by
  have := flat_any w b 0 hb
  rwa [flat_zero (by simpa using h0)] at this
/-- The heading by sizes and directions. -/
def headB (a b : Nat) (e n : Bool) : Int := if a = 0 ∧ b = 0 then -1 else if flatB a b = true then (if e = true then 0 else 4) else if flatB b a = true then (if n = true then 2 else 6) else if n = true then (if e = true then 1 else 3) else (if e = true then 7 else 5)
theorem headB_eq (dx dy : Int) (a b : Nat) (e n : Bool) (ha : a = dx.natAbs) (hb : b = dy.natAbs) (he : e = decide (0 < dx)) (hn : n = decide (0 < dy)) : head dx dy = headB a b e n := by
  unfold head headB
  subst ha hb he hn
  have h1 : (dx = 0 ∧ dy = 0) ↔ (dx.natAbs = 0 ∧ dy.natAbs = 0) := by omega
  simp only [decide_eq_true_eq, h1]
set_option maxRecDepth 100000 in
set_option maxHeartbeats 1000000 in
theorem heading_any (w : World) (px py qx qy : Int) (h1 : I32 px) (h2 : I32 py) (h3 : I32 qx) (h4 : I32 qy) :
    Calls Tryd.prog 44 #[.agg #[.int .i32 px, .int .i32 py], .agg #[.int .i32 qx, .int .i32 qy]] w fun e w' => e = .returned (.int .i64 (head (qx - px) (qy - py))) ∧ Fr [] w w' := by
  have F0 : Fr [] w ((w.alloc (.cells #[.int .i32 px, .int .i32 py] 98)).alloc (.cells #[.int .i32 qx, .int .i32 qy] 98)) := ((Fr.refl _ _).alloc _).alloc _
  have HF := Lib.hid F0
  clear F0
  have l1 := dAbs_le h1 h3
  have l2 := dAbs_le h2 h4
  have hz := headB_eq (qx - px) (qy - py) (dAbs px qx) (dAbs py qy) (decide (px < qx)) (decide (py < qy)) (by unfold dAbs; omega) (by unfold dAbs; omega) (by rw [decide_eq_decide]; omega) (by rw [decide_eq_decide]; omega)
  generalize head (qx - px) (qy - py) = Z at *
  have HZ := Lib.hid (And.intro hz (And.intro l1 l2))
  clear hz l1 l2
  go_enter Tryd.func44, Tryd.ntmps44
  go_wp2_with fail
  go_quiet ((go_at_call 102; exact Calls.quiet_of_same (size_q _ _ _ (by assumption) (by assumption))))
  rename Nat => n1
  go_wp2_with fail
  go_quiet (fail)
  rename Nat => n2
  obtain ⟨hz, l1, l2⟩ := HZ.out
  obtain ⟨w5, hw5⟩ : ∃ w5, w5 = (((w.alloc (.cells #[.int .i32 px, .int .i32 py] 98)).alloc (.cells #[.int .i32 qx, .int .i32 qy] 98)).drewN n1).drewN n2 := ⟨_, rfl⟩
  have HW := Lib.hid (show Fr [] w w5 by rw [hw5]; exact (HF.out.drewN _).drewN _)
  rw [← hw5]
  clear HZ hw5 HF
  generalize dAbs px qx = a at *
  generalize dAbs py qy = b at *
  generalize decide (px < qx) = x at *
  generalize decide (py < qy) = y at *
  have HZ := Lib.hid hz
  clear hz
  go_wp2_with (first | (go_at_call 104; (with_reducible refine (flat_0 _ _).mono ?_); rintro e w9 ⟨rfl, rfl⟩) | (go_at_call 104; (with_reducible refine (flat_b0 _ _ (by assumption) (by assumption)).mono ?_); rintro e w9 ⟨rfl, rfl⟩) | (go_at_call 104; (with_reducible refine (flat_any _ _ _ (by assumption)).mono ?_); rintro e w9 ⟨rfl, rfl⟩) | (go_at_call 103; (with_reducible refine (pick_any _ _ _ _).mono ?_); rintro e w9 ⟨rfl, rfl⟩))
  all_goals
    go_ret
    refine ⟨?_, HW.out⟩
    rw [HZ.out]
    unfold headB
    first
      | (simp [*]; done)
      | (have h0 : ((b : Int) == 0) = true := by assumption
         simp at h0
         simp [*]; done)
      | (have h0 : ((b : Int) == 0) = false := by assumption
         have h0 : b ≠ 0 := by simpa using h0
         simp [*, flat_zero h0, flatB_le (Nat.zero_le b)]; done)
/-! ### the document's -/
theorem rflat_0 (w : World) (b : Nat) : Calls Tryd.prog 105 #[.int .u64 0, .int .u64 b] w fun e w' => e = .returned (.bool false) ∧ w = w' := by
  have := rflat_any w 0 b (by omega)
  rwa [flatB_le (Nat.zero_le b)] at this
theorem rflat_b0 (w : World) (b : Nat) (h0 : ¬ b = 0) (hb : b ≤ 4294967295) : Calls Tryd.prog 105 #[.int .u64 b, .int .u64 0] w fun e w' => e = .returned (.bool true) ∧ w = w' := by
  have := rflat_any w b 0 hb
  rwa [flat_zero h0] at this
theorem rsize_0 (w : World) : Calls Tryd.prog 99 #[.int .i64 0] w fun e w' => e = .returned (.int .u64 0) ∧ w = w' := rsize_any w 0 (by decide) (by decide)
theorem rsize_pt (w : World) (p q : Int) (hp : I32 p) (hq : I32 q) : Calls Tryd.prog 99 #[.int .i64 (q - p)] w fun e w' => e = .returned (.int .u64 (dAbs p q)) ∧ w = w' := by
  obtain ⟨a1, a2⟩ := hp
  obtain ⟨b1, b2⟩ := hq
  rw [show dAbs p q = (q - p).natAbs by unfold dAbs; omega]
  exact rsize_any w (q - p) (by omega) (by omega)
/-- The end of the document's Heading: the heading by what it asks. -/
def headR (a b : Nat) (dx dy : Int) : Int := if dx = 0 ∧ dy = 0 then -1 else if flatB a b = true then (if 0 < dx then 0 else 4) else if flatB b a = true then (if 0 < dy then 2 else 6) else if 0 < dy then (if 0 < dx then 1 else 3) else (if 0 < dx then 7 else 5)
set_option maxRecDepth 100000 in
set_option maxHeartbeats 1000000 in
theorem rheading_any (w : World) (px py qx qy : Int) (h1 : I32 px) (h2 : I32 py) (h3 : I32 qx) (h4 : I32 qy) :
    Calls Tryd.prog 49 #[.agg #[.int .i32 px, .int .i32 py], .agg #[.int .i32 qx, .int .i32 qy]] w fun e w' => e = .returned (.int .i64 (head (qx - px) (qy - py))) ∧ Fr [] w w' := by
  have F0 : Fr [] w ((w.alloc (.cells #[.int .i32 px, .int .i32 py] 98)).alloc (.cells #[.int .i32 qx, .int .i32 qy] 98)) := ((Fr.refl _ _).alloc _).alloc _
  have HF := Lib.hid F0
  clear F0
  have l1 := dAbs_le h1 h3
  have l2 := dAbs_le h2 h4
  have S1 := Lib.hid (fun w => rsize_pt w px qx h1 h3)
  have S2 := Lib.hid (fun w => rsize_pt w py qy h2 h4)
  obtain ⟨p1, p2⟩ := h1
  obtain ⟨p3, p4⟩ := h2
  obtain ⟨q1, q2⟩ := h3
  obtain ⟨q3, q4⟩ := h4
  have hz : head (qx - px) (qy - py) = headR (dAbs px qx) (dAbs py qy) (qx - px) (qy - py) := by
    unfold head headR
    rw [show (qx - px).natAbs = dAbs px qx by unfold dAbs; omega, show (qy - py).natAbs = dAbs py qy by unfold dAbs; omega]
  have z1 : dAbs px qx = 0 ↔ qx - px = 0 := by unfold dAbs; omega
  have z2 : dAbs py qy = 0 ↔ qy - py = 0 := by unfold dAbs; omega
  have HZ := Lib.hid (And.intro hz (And.intro z1 z2))
  have HB := Lib.hid (show (qy - py == 0) = false → ¬ dAbs py qy = 0 from fun h => by
    have h : qy - py ≠ 0 := by simpa using h
    omega)
  clear hz z1 z2
  generalize head (qx - px) (qy - py) = Z at *
  generalize dAbs px qx = a at *
  generalize dAbs py qy = b at *
  go_enter Tryd.func49, Tryd.ntmps49
  go_wp2_with (first | (go_at_call 99; (with_reducible refine (S1.out _).mono ?_); rintro e w9 ⟨rfl, rfl⟩) | (go_at_call 99; (with_reducible refine (S2.out _).mono ?_); rintro e w9 ⟨rfl, rfl⟩) | (go_at_call 99; (with_reducible refine (rsize_0 _).mono ?_); rintro e w9 ⟨rfl, rfl⟩) | (go_at_call 105; (with_reducible refine (rflat_0 _ _).mono ?_); rintro e w9 ⟨rfl, rfl⟩) | (go_at_call 105; (with_reducible refine (rflat_b0 _ _ (HB.out (by assumption)) (by assumption)).mono ?_); rintro e w9 ⟨rfl, rfl⟩) | (go_at_call 105; (with_reducible refine (rflat_any _ _ _ (by assumption)).mono ?_); rintro e w9 ⟨rfl, rfl⟩))
  all_goals
    go_ret
    refine ⟨?_, HF.out⟩
    obtain ⟨hz, z1, z2⟩ := HZ.out
    refine congrArg (fun z => Ending.returned (.int .i64 z)) ?_
    rw [hz]
    unfold headR
    try simp only [beq_eq_false_iff_ne, beq_iff_eq] at *
    repeat' split
    all_goals first
      | rfl
      | (exfalso; omega)
      | (exfalso; contradiction)
      | (exfalso
         obtain rfl : a = 0 := by omega
         have hb : b ≠ 0 := by omega
         simp [flatB_le (Nat.zero_le b), flat_zero hb] at *
         done)
      | (exfalso
         obtain rfl : a = 0 := by omega
         have hb : b ≠ 0 := by omega
         simp [flatB_le (Nat.zero_le b), flat_zero hb] at *
         omega)
end Go.Proofs.YtgoolkgjcmdilaaDoor
