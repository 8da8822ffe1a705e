/-
  Tables of N: Len, Room, Get.
-/
import Derived.Test.YtgoolkgjcmdilaaDoorTabNB
namespace Go.Proofs.YtgoolkgjcmdilaaDoor
open Go.RowKit
set_option linter.unusedVariables false
set_option linter.unusedSimpArgs false
attribute [local go_sem] Oper.semAt_some

theorem roomN_any (w : World) (b : Nat) (v : Value) (Ps : List (Int × (Int))) (room : Int) (h : TabN w b v Ps room) : Calls Tryd.prog 157 #[.pointer (some ⟨b, 0, none⟩)] w fun e w' => e = .returned (.int .i64 room) ∧ w = w' := by
  have HH := Lib.hid h
  have c0 := h.hd.at 0 (v := .int .i64 room) rfl
  clear h
  go_enter Tryd.func157, Tryd.ntmps157
  go_wp2_with fail
  (with_reducible refine (liveN_any _ b _ Ps room HH.out).mono ?_)
  rintro e w1 ⟨rfl, rfl⟩
  go_wp2
  go_ret
  exact ⟨rfl, rfl⟩
set_option maxRecDepth 100000 in
theorem getN_yes (w : World) (b : Nat) (v : Value) (Ps : List (Int × (Int))) (room id : Int) (x : Int) (h : TabN w b v Ps room) (hi : U32 id) (hx : Ps[rank Ps id]? = some (id, x)) :
    Calls Tryd.prog 126 #[.pointer (some ⟨b, 0, none⟩), .int .u32 id] w fun e w' => e = .returned (.tuple #[.int .i64 x, .bool true]) ∧ Fr [] w w' := by
  have hL := findN_any _ b v Ps room id h hi
  have hh : hasId Ps id = true := (has_at h.up id).2 ⟨x, hx⟩
  rw [hh] at hL
  obtain ⟨r, hr⟩ : ∃ r, r = rank Ps id := ⟨_, rfl⟩
  rw [← hr] at hL hx
  have HL := Lib.hid hL
  have HH := Lib.hid h
  have HX := Lib.hid hx
  clear h hL hh hx hr hi
  go_enter Tryd.func126, Tryd.ntmps126
  go_wp2_with fail
  (with_reducible refine (liveN_any _ b _ Ps room HH.out).mono ?_)
  rintro e w1 ⟨rfl, rfl⟩
  go_wp2_with fail
  (with_reducible refine (HL.out).mono ?_)
  rintro e w1 ⟨rfl, f1⟩
  have h1 := HH.out.grow f1
  obtain ⟨g, cap, rfl, hc1, hc2, hc3, hr⟩ := h1.row
  have d1 := h1.hd.at 1 (v := .slice (some ⟨g, 0, none⟩) Ps.length cap) rfl
  obtain ⟨c0, c1⟩ := hr.at HX.out
  dsimp only at c0 c1
  have hrl := (List.getElem?_eq_some_iff.1 HX.out).1
  obtain ⟨n, hn⟩ : ∃ n, n = Ps.length := ⟨_, rfl⟩
  rw [← hn] at d1 hrl
  have g0 : (0 : Int) ≤ (r : Int) := by omega
  have g1 : (r : Int) < (n : Int) := by omega
  have HF := Lib.hid f1
  clear h1 hr hn hrl f1 hc1 hc2 hc3
  go_wp2_with fail
  refine bodyPost_ret (v := .tuple #[.int .i64 x, .bool true]) (by simp [results, Tryd.results126, go_sem]) rfl ⟨rfl, HF.out⟩
set_option maxRecDepth 100000 in
theorem getN_no (w : World) (b : Nat) (v : Value) (Ps : List (Int × (Int))) (room id : Int) (h : TabN w b v Ps room) (hi : U32 id) (hh : hasId Ps id = false) :
    Calls Tryd.prog 126 #[.pointer (some ⟨b, 0, none⟩), .int .u32 id] w fun e w' => e = .returned (.tuple #[.int .i64 0, .bool false]) ∧ Fr [] w w' := by
  have hL := findN_any _ b v Ps room id h hi
  rw [hh] at hL
  have HL := Lib.hid hL
  have HH := Lib.hid h
  clear h hL hh hi
  go_enter Tryd.func126, Tryd.ntmps126
  go_wp2_with fail
  (with_reducible refine (liveN_any _ b _ Ps room HH.out).mono ?_)
  rintro e w1 ⟨rfl, rfl⟩
  go_wp2_with fail
  (with_reducible refine (HL.out).mono ?_)
  rintro e w1 ⟨rfl, f1⟩
  have HF := Lib.hid f1
  clear f1
  go_wp2_with fail
  refine bodyPost_ret (v := .tuple #[.int .i64 0, .bool false]) (by simp [results, Tryd.results126, go_sem]) rfl ⟨rfl, HF.out⟩
end Go.Proofs.YtgoolkgjcmdilaaDoor
