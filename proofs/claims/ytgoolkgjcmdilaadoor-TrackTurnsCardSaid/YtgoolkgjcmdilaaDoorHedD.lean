/-
  TrackTurns: its walk.
-/
import Derived.Test.YtgoolkgjcmdilaaDoorHedC
import Derived.Test.YtgoolkgjcmdilaaDoorTraF
namespace Go.Proofs.YtgoolkgjcmdilaaDoor
open Go.RowKit Hed
set_option linter.unusedVariables false
set_option linter.unusedSimpArgs false
attribute [local go_sem] Oper.semAt_some

theorem heading0 (w : World) (D E h : Int) (h1 : I32 D) (h2 : I32 E) (hh : head D E = h) : Calls Tryd.prog 44 #[.agg #[.int .i32 0, .int .i32 0], .agg #[.int .i32 D, .int .i32 E]] w fun e w' => e = .returned (.int .i64 h) ∧ Fr [] w w' := by
  have := heading_any w 0 0 D E ⟨by decide, by decide⟩ ⟨by decide, by decide⟩ h1 h2
  rwa [Int.sub_zero, Int.sub_zero, hh] at this
/-- What a law answers. -/
def Law (w : World) (e : Ending) (w' : World) : Prop := e = .returned (.bool true) ∧ Fr [] w w'
set_option maxRecDepth 100000 in
set_option maxHeartbeats 400000 in
theorem turns_none (w : World) (hT : DeB w) (px py qx qy : Int) (h1 : I32 px) (h2 : I32 py) (h3 : I32 qx) (h4 : I32 qy) (hz : qx - px = 0 ∧ qy - py = 0) :
    Calls Tryd.prog 7 #[.agg #[.int .i32 px, .int .i32 py], .agg #[.int .i32 qx, .int .i32 qy]] w (Law w) := by
  have F0 : Fr [] w ((w.alloc (.cells #[.int .i32 px, .int .i32 py] 98)).alloc (.cells #[.int .i32 qx, .int .i32 qy] 98)) := ((Fr.refl _ _).alloc _).alloc _
  have HD := Lib.hid (deB_fr2 hT F0)
  have HF := Lib.hid F0
  have HC := Lib.hid (fun w => heading_any w px py qx qy h1 h2 h3 h4)
  have hh := head_none hz
  rw [hh] at HC
  obtain ⟨p1, p2⟩ := h1
  obtain ⟨p3, p4⟩ := h2
  obtain ⟨q1, q2⟩ := h3
  obtain ⟨q3, q4⟩ := h4
  obtain ⟨z1, z2⟩ := hz
  clear F0 hT hh
  go_enter Tryd.func7, Tryd.ntmps7
  go_wp2_with fail
  (with_reducible refine (HC.out _).mono ?_)
  rintro e w1 ⟨rfl, f1⟩
  have HD1 := Lib.hid (deB_fr2 HD.out f1)
  have HF1 := Lib.hid (HF.out.trans f1 (by simp))
  clear f1 HD HF
  go_wp2_with fail
  (with_reducible refine (works_any _ HD1.out).mono ?_)
  rintro e w2 ⟨rfl, f2⟩
  have HF2 := Lib.hid (HF1.out.trans f2 (by simp))
  clear f2
  go_wp2_with fail
  go_ret
  exact ⟨rfl, HF2.out⟩
set_option maxRecDepth 100000 in
set_option maxHeartbeats 400000 in
theorem turns_far (w : World) (hT : DeB w) (px py qx qy : Int) (h1 : I32 px) (h2 : I32 py) (h3 : I32 qx) (h4 : I32 qy) (hz : ¬ (qx - px = 0 ∧ qy - py = 0)) :
    Calls Tryd.prog 7 #[.agg #[.int .i32 px, .int .i32 py], .agg #[.int .i32 qx, .int .i32 qy]] w (Law w) := by
  have F0 : Fr [] w ((w.alloc (.cells #[.int .i32 px, .int .i32 py] 98)).alloc (.cells #[.int .i32 qx, .int .i32 qy] 98)) := ((Fr.refl _ _).alloc _).alloc _
  have hA := (Blk.new w #[.int .i32 px, .int .i32 py] 98).alloc (.cells #[.int .i32 qx, .int .i32 qy] 98)
  have hB := Blk.new (w.alloc (.cells #[.int .i32 px, .int .i32 py] 98)) #[.int .i32 qx, .int .i32 qy] 98
  rw [show (w.alloc (.cells #[.int .i32 px, .int .i32 py] 98)).heap.size = w.heap.size + 1 by simp] at hB
  have HW := Lib.hid (And.intro (deB_fr2 hT F0) (And.intro F0 (And.intro hA hB)))
  have HC := Lib.hid (fun w => heading_any w px py qx qy h1 h2 h3 h4)
  have HO := Lib.hid (fun w => heading_any w qx qy px py h3 h4 h1 h2)
  have hh := head_about hz
  have hr := head_range hz
  rw [show -(qx - px) = px - qx by omega, show -(qy - py) = py - qy by omega] at hh
  rw [hh] at HO
  have hq := head_quarter hz
  clear hh
  generalize hg : head (qx - px) (qy - py) = h at *
  have HH := Lib.hid (And.intro hg hq)
  clear hg hq
  obtain ⟨r1, r2⟩ := hr
  obtain ⟨p1, p2⟩ := h1
  obtain ⟨p3, p4⟩ := h2
  obtain ⟨q1, q2⟩ := h3
  obtain ⟨q3, q4⟩ := h4
  have HZ := Lib.hid hz
  clear F0 hT hA hB hz
  go_enter Tryd.func7, Tryd.ntmps7
  go_wp2_with fail
  (with_reducible refine (HC.out _).mono ?_)
  rintro e w1 ⟨rfl, f1⟩
  have HW1 := Lib.hid (And.intro (deB_fr2 HW.out.1 f1) (And.intro (HW.out.2.1.trans f1 (by simp)) (And.intro (f1.blk HW.out.2.2.1 (by simp)) (f1.blk HW.out.2.2.2 (by simp)))))
  have c0 := HW1.out.2.2.1.at 0 (v := .int .i32 px) rfl
  have c1 := HW1.out.2.2.1.at 1 (v := .int .i32 py) rfl
  have d0 := HW1.out.2.2.2.at 0 (v := .int .i32 qx) rfl
  have d1 := HW1.out.2.2.2.at 1 (v := .int .i32 qy) rfl
  clear f1 HW
  go_wp2_with fail
  · exfalso
    have h0 : (qy - py == 0) = true := by assumption
    have h0 : qy - py = 0 := by simpa using h0
    exact HZ.out ⟨by assumption, h0⟩
  all_goals
    (with_reducible refine (HO.out _).mono ?_)
    rintro e w2 ⟨rfl, f2⟩
    have HD2 := Lib.hid (deB_fr2 HW1.out.1 f2)
    have HF2 := Lib.hid (HW1.out.2.1.trans f2 (by simp))
    clear f2 HW1 c0 c1 d0 d1
    go_wp2_with (first | (go_at_call 41; (with_reducible refine (works_any _ HD2.out).mono ?_); rintro e w3 ⟨rfl, f3⟩; have HF3 := Lib.hid (HF2.out.trans f3 (by simp)); clear f3))
  all_goals first
    | (go_ret; exact ⟨rfl, HF3.out⟩)
    | skip
  · have hx : qx - px = 0 := by assumption
    have hb : -1073741824 ≤ qy - py ∧ qy - py ≤ 1073741824 := by assumption
    obtain ⟨g1, g2⟩ := HH.out
    rw [hx] at g1 g2
    have HA := Lib.hid (fun w => heading0 w 0 (qy - py) h ⟨by omega, by omega⟩ ⟨by omega, by omega⟩ g1)
    have HB := Lib.hid (fun w => heading0 w (-(qy - py)) 0 _ ⟨by omega, by omega⟩ ⟨by omega, by omega⟩ g2)
    clear g1 g2
    (with_reducible refine (HA.out _).mono ?_)
    rintro e w3 ⟨rfl, f3⟩
    have HD3 := Lib.hid (deB_fr2 HD2.out f3)
    have HF3 := Lib.hid (HF2.out.trans f3 (by simp))
    clear f3 HD2 HF2 HA
    go_wp2_with fail
    (with_reducible refine (HB.out _).mono ?_)
    rintro e w4 ⟨rfl, f4⟩
    have HD4 := Lib.hid (deB_fr2 HD3.out f4)
    have HF4 := Lib.hid (HF3.out.trans f4 (by simp))
    clear f4 HD3 HF3 HB
    go_wp2_with (first | (go_at_call 41; (with_reducible refine (works_any _ HD4.out).mono ?_); rintro e w5 ⟨rfl, f5⟩; have HF5 := Lib.hid (HF4.out.trans f5 (by simp)); clear f5))
    go_ret
    exact ⟨rfl, HF5.out⟩
  · have hx : ¬ qx - px = 0 := by assumption
    have hb : ((-1073741824 ≤ qx - px ∧ qx - px ≤ 1073741824) ∧ -1073741824 ≤ qy - py) ∧ qy - py ≤ 1073741824 := by assumption
    obtain ⟨g1, g2⟩ := HH.out
    skip
    have HA := Lib.hid (fun w => heading0 w (qx - px) (qy - py) h ⟨by omega, by omega⟩ ⟨by omega, by omega⟩ g1)
    have HB := Lib.hid (fun w => heading0 w (-(qy - py)) (qx - px) _ ⟨by omega, by omega⟩ ⟨by omega, by omega⟩ g2)
    clear g1 g2
    (with_reducible refine (HA.out _).mono ?_)
    rintro e w3 ⟨rfl, f3⟩
    have HD3 := Lib.hid (deB_fr2 HD2.out f3)
    have HF3 := Lib.hid (HF2.out.trans f3 (by simp))
    clear f3 HD2 HF2 HA
    go_wp2_with fail
    (with_reducible refine (HB.out _).mono ?_)
    rintro e w4 ⟨rfl, f4⟩
    have HD4 := Lib.hid (deB_fr2 HD3.out f4)
    have HF4 := Lib.hid (HF3.out.trans f4 (by simp))
    clear f4 HD3 HF3 HB
    go_wp2_with (first | (go_at_call 41; (with_reducible refine (works_any _ HD4.out).mono ?_); rintro e w5 ⟨rfl, f5⟩; have HF5 := Lib.hid (HF4.out.trans f5 (by simp)); clear f5))
    go_ret
    exact ⟨rfl, HF5.out⟩
/-- TrackTurns answers true. -/
theorem turns_walk (w : World) (hT : DeB w) (px py qx qy : Int) (h1 : I32 px) (h2 : I32 py) (h3 : I32 qx) (h4 : I32 qy) :
    Calls Tryd.prog 7 #[.agg #[.int .i32 px, .int .i32 py], .agg #[.int .i32 qx, .int .i32 qy]] w (Law w) := by
  by_cases hz : qx - px = 0 ∧ qy - py = 0
  · exact turns_none w hT px py qx qy h1 h2 h3 h4 hz
  · exact turns_far w hT px py qx qy h1 h2 h3 h4 hz
end Go.Proofs.YtgoolkgjcmdilaaDoor
