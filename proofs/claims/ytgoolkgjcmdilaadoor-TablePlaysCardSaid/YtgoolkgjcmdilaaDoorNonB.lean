/-
  none: a table that New did not make answers nothing.
-/
import Derived.Test.YtgoolkgjcmdilaaDoorNonA
namespace Go.Proofs.YtgoolkgjcmdilaaDoor
open Go.RowKit
set_option linter.unusedVariables false
set_option linter.unusedSimpArgs false
attribute [local go_sem] Oper.semAt_some

set_option maxRecDepth 100000 in
set_option maxHeartbeats 4000000 in
theorem none_any (w : World) (p : Value) (h : NoT w p) : Calls Tryd.prog 24 #[p] w fun e w' => e = .returned (.bool true) ∧ Fr [] w w' := by
  have HN := Lib.hid h
  clear h
  go_enter Tryd.func24, Tryd.ntmps24
  go_wp2_with fail
  (with_reducible refine (of_any w 1).mono ?_)
  rintro e w1 ⟨rfl, f1⟩
  have HP := Lib.hid (put_none w1 p 1 1 (sv 1) (HN.out.grow f1))
  go_wp2_with fail
  (with_reducible refine (HP.out).mono ?_)
  rintro e w2 ⟨rfl, f2⟩
  have F2 := f1.trans f2 (by simp)
  clear f1 f2 HP
  have HA := Lib.hid (F2.alloc (.cells #[.int .i64 0, .string ⟨#[]⟩] 29))
  go_wp2_with fail
  generalize w2.alloc _ = w3 at *
  (with_reducible refine (get_none w3 p 1 (HN.out.grow HA.out)).mono ?_)
  rintro e w4 ⟨rfl, f4⟩
  have HB := Lib.hid ((HA.out.trans f4 (by simp)).alloc (.cells #[.int .i64 0, .string ⟨#[]⟩] 29))
  clear f4 F2 HA
  go_wp2_with fail
  generalize w4.alloc _ = w5 at *
  (with_reducible refine (del_none w5 p 1 (HN.out.grow HB.out)).mono ?_)
  rintro e w6 ⟨rfl, f6⟩
  have HC := Lib.hid ((HB.out.trans f6 (by simp)).alloc (.cells #[.int .i64 0, .string ⟨#[]⟩] 29))
  clear f6 HB
  go_wp2_with fail
  generalize w6.alloc _ = w7 at *
  (with_reducible refine (next_none w7 p 0 true (HN.out.grow HC.out)).mono ?_)
  rintro e w8 ⟨rfl, f8⟩
  have HD := Lib.hid ((HC.out.trans f8 (by simp)).alloc (.cells #[.int .i64 0, .string ⟨#[]⟩] 29))
  clear f8 HC
  go_wp2_with fail
  generalize w8.alloc _ = w9 at *
  (with_reducible refine (len_none w9 p (HN.out.grow HD.out)).mono ?_)
  rintro e wx ⟨rfl, rfl⟩
  go_wp2_with fail
  (with_reducible refine (room_none w9 p (HN.out.grow HD.out)).mono ?_)
  rintro e wx ⟨rfl, rfl⟩
  go_wp2_with fail
  (with_reducible refine (all_none w9 p (HN.out.grow HD.out)).mono ?_)
  rintro e wy ⟨rfl, hv, fy⟩
  have HV := Lib.hid hv
  have HE := Lib.hid (HD.out.trans fy (by simp))
  clear hv fy HD
  go_wp2_with fail
  (with_reducible refine (pairs_any wy _ _ [] 0 HV.out (by simp)).mono ?_)
  rintro e wz ⟨vz, rfl, hz, fz⟩
  obtain ⟨pz, cz, rfl, _, _⟩ := hz
  rw [stopR_zero]
  have HF := Lib.hid (HE.out.trans fz (by simp))
  clear fz HE
  go_wp2
  go_ret
  exact ⟨rfl, HF.out⟩
end Go.Proofs.YtgoolkgjcmdilaaDoor
