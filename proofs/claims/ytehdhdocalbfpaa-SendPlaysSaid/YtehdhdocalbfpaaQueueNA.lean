/-
  A ring of texts that is nil, or zero: every answer.
-/
import Derived.Test.YtehdhdocalbfpaaQueueE
import Derived.Handy
namespace Go.Proofs.Ytehdhdocalbfpaa
open Go.RowKit
set_option linter.unusedVariables false
attribute [local go_sem ↓] Go.wp_at_zero Go.wp_at_succ

/-- Nil, or zero. -/
def Nul (w : World) (p : Option Addr) : Prop := p = none ∨ ∃ z, p = some ⟨z, 0, none⟩ ∧ Blk w z #[.slice none 0 0, .int .i64 0, .int .i64 0, .int .i64 0, .bool false, .int .i64 0, .int .i64 0, .bool false, .int .i64 0, .int .i64 0] 39
theorem Nul.fr {w w' : World} {p : Option Addr} (h : Nul w p) (f : Fr [] w w') : Nul w' p := by
  rcases h with h | ⟨z, h, hb⟩
  · exact .inl h
  · exact .inr ⟨z, h, f.blk hb (by simp)⟩
theorem nthere (w : World) (p : Option Addr) (h : Nul w p) : Calls Try.prog 72 #[.pointer p] w fun e w' => e = .returned (.bool false) ∧ w = w' := by
  rcases h with rfl | ⟨z, rfl, hb⟩
  · go_enter Try.func72, Try.ntmps72
    go_wp2
    go_ret
    exact ⟨rfl, rfl⟩
  · have c1 := hb.at 1 (v := .int .i64 0) rfl
    clear hb
    go_enter Try.func72, Try.ntmps72
    go_wp2
    go_ret
    exact ⟨rfl, rfl⟩
theorem nlen (w : World) (p : Option Addr) (h : Nul w p) : Calls Try.prog 48 #[.pointer p] w fun e w' => e = .returned (.int .i64 0) ∧ w = w' := by
  have H0 := Lib.hid (nthere w p h)
  clear h
  go_enter Try.func48, Try.ntmps48
  go_wp2_with (first | (go_at_call 72; refine H0.out.mono ?_; rintro e w1 ⟨rfl, rfl⟩))
  go_ret
  exact ⟨rfl, rfl⟩
theorem nmost (w : World) (p : Option Addr) (h : Nul w p) : Calls Try.prog 50 #[.pointer p] w fun e w' => e = .returned (.int .i64 0) ∧ w = w' := by
  have H0 := Lib.hid (nthere w p h)
  clear h
  go_enter Try.func50, Try.ntmps50
  go_wp2_with (first | (go_at_call 72; refine H0.out.mono ?_; rintro e w1 ⟨rfl, rfl⟩))
  go_ret
  exact ⟨rfl, rfl⟩
theorem npeak (w : World) (p : Option Addr) (h : Nul w p) : Calls Try.prog 51 #[.pointer p] w fun e w' => e = .returned (.int .i64 0) ∧ w = w' := by
  have H0 := Lib.hid (nthere w p h)
  clear h
  go_enter Try.func51, Try.ntmps51
  go_wp2_with (first | (go_at_call 72; refine H0.out.mono ?_; rintro e w1 ⟨rfl, rfl⟩))
  go_ret
  exact ⟨rfl, rfl⟩
theorem nref (w : World) (p : Option Addr) (h : Nul w p) : Calls Try.prog 52 #[.pointer p] w fun e w' => e = .returned (.int .i64 0) ∧ w = w' := by
  have H0 := Lib.hid (nthere w p h)
  clear h
  go_enter Try.func52, Try.ntmps52
  go_wp2_with (first | (go_at_call 72; refine H0.out.mono ?_; rintro e w1 ⟨rfl, rfl⟩))
  go_ret
  exact ⟨rfl, rfl⟩
theorem nfree (w : World) (p : Option Addr) (h : Nul w p) : Calls Try.prog 49 #[.pointer p] w fun e w' => e = .returned (.int .i64 0) ∧ w = w' := by
  have H0 := Lib.hid (nmost w p h)
  have H1 := Lib.hid (nlen w p h)
  clear h
  go_enter Try.func49, Try.ntmps49
  go_wp2_with (first | (go_at_call 50; refine H0.out.mono ?_; rintro e w1 ⟨rfl, rfl⟩) | (go_at_call 48; refine H1.out.mono ?_; rintro e w1 ⟨rfl, rfl⟩))
  go_ret
  exact ⟨rfl, rfl⟩
theorem npressed (w : World) (p : Option Addr) (h : Nul w p) : Calls Try.prog 53 #[.pointer p] w fun e w' => e = .returned (.bool false) ∧ w = w' := by
  have H0 := Lib.hid (nthere w p h)
  clear h
  go_enter Try.func53, Try.ntmps53
  go_wp2_with (first | (go_at_call 72; refine H0.out.mono ?_; rintro e w1 ⟨rfl, rfl⟩))
  go_ret
  exact ⟨rfl, rfl⟩
theorem npush (w : World) (p : Option Addr) (s : ByteArray) (h : Nul w p) : Calls Try.prog 44 #[.pointer p, .string s] w fun e w' => e = .returned (.int .i64 1) ∧ w = w' := by
  have H0 := Lib.hid (nthere w p h)
  clear h
  go_enter Try.func44, Try.ntmps44
  go_wp2_with (first | (go_at_call 72; refine H0.out.mono ?_; rintro e w1 ⟨rfl, rfl⟩))
  go_ret
  exact ⟨rfl, rfl⟩
theorem nmark (w : World) (p : Option Addr) (a b : Int) (h : Nul w p) : Calls Try.prog 45 #[.pointer p, .int .i64 a, .int .i64 b] w fun e w' => e = .returned (.int .i64 1) ∧ w = w' := by
  have H0 := Lib.hid (nthere w p h)
  clear h
  go_enter Try.func45, Try.ntmps45
  go_wp2_with (first | (go_at_call 72; refine H0.out.mono ?_; rintro e w1 ⟨rfl, rfl⟩))
  go_ret
  exact ⟨rfl, rfl⟩
theorem nat (w : World) (p : Option Addr) (i : Int) (h : Nul w p) : Calls Try.prog 41 #[.pointer p, .int .i64 i] w fun e w' => (∃ s, e = .returned (.tuple #[.string s, .bool false])) ∧ w = w' := by
  have H0 := Lib.hid (nlen w p h)
  clear h
  by_cases hi : i < 0
  · go_enter Try.func41, Try.ntmps41
    go_wp2_with (go_at_call 48; refine H0.out.mono ?_; rintro e w1 ⟨rfl, rfl⟩)
    go_ret2
    exact ⟨⟨_, rfl⟩, rfl⟩
  · have hi2 : 0 ≤ i := by omega
    go_enter Try.func41, Try.ntmps41
    go_wp2_with (go_at_call 48; refine H0.out.mono ?_; rintro e w1 ⟨rfl, rfl⟩)
    go_ret2
    exact ⟨⟨_, rfl⟩, rfl⟩
theorem nset (w : World) (p : Option Addr) (i : Int) (s : ByteArray) (h : Nul w p) : Calls Try.prog 46 #[.pointer p, .int .i64 i, .string s] w fun e w' => e = .returned (.bool false) ∧ w = w' := by
  have H0 := Lib.hid (nlen w p h)
  clear h
  by_cases hi : i < 0
  · go_enter Try.func46, Try.ntmps46
    go_wp2_with (go_at_call 48; refine H0.out.mono ?_; rintro e w1 ⟨rfl, rfl⟩)
    go_ret
    exact ⟨rfl, rfl⟩
  · have hi2 : 0 ≤ i := by omega
    go_enter Try.func46, Try.ntmps46
    go_wp2_with (go_at_call 48; refine H0.out.mono ?_; rintro e w1 ⟨rfl, rfl⟩)
    go_ret
    exact ⟨rfl, rfl⟩
theorem ndrop (w : World) (p : Option Addr) (i : Int) (h : Nul w p) : Calls Try.prog 47 #[.pointer p, .int .i64 i] w fun e w' => e = .returned (.int .i64 0) ∧ w = w' := by
  have HL := Lib.hid (nlen w p h)
  have hm : max 0 (min i 0) = 0 := by omega
  clear h
  go_enter Try.func47, Try.ntmps47
  go_wp2_with (go_at_call 48; refine HL.out.mono ?_; rintro e w1 ⟨rfl, rfl⟩)
  all_goals
    refine wp_loop_rounds 1 ?_
    rw [rounds_succ]
    go_wp2
    go_ret
    exact ⟨rfl, rfl⟩
theorem ncut (w : World) (p : Option Addr) (i : Int) (h : Nul w p) : Calls Try.prog 42 #[.pointer p, .int .i64 i] w fun e w' => (∃ s, e = .returned (.tuple #[.string s, .bool false])) ∧ w = w' := by
  have H0 := Lib.hid (nat w p i h)
  clear h
  go_enter Try.func42, Try.ntmps42
  go_wp2_with (go_at_call 41; refine H0.out.mono ?_; rintro e w1 ⟨⟨s, rfl⟩, rfl⟩)
  go_ret2
  exact ⟨⟨_, rfl⟩, rfl⟩
theorem npop (w : World) (p : Option Addr) (h : Nul w p) : Calls Try.prog 40 #[.pointer p] w fun e w' => (∃ s, e = .returned (.tuple #[.string s, .bool false])) ∧ w = w' := by
  have H0 := Lib.hid (nat w p 0 h)
  have H1 := Lib.hid (ndrop w p 1 h)
  clear h
  go_enter Try.func40, Try.ntmps40
  go_wp2_with (go_at_call 41; refine H0.out.mono ?_; rintro e w1 ⟨⟨s, rfl⟩, rfl⟩)
  go_wp2_with (go_at_call 47; refine H1.out.mono ?_; rintro e w1 ⟨rfl, rfl⟩)
  go_ret2
  exact ⟨⟨_, rfl⟩, rfl⟩
def NoAll (w : World) (e : Ending) (w' : World) : Prop := ∃ k, e = .returned (.func (.func 71) #[] #[.pointer (some ⟨k, 0, none⟩)]) ∧ Blk w' k #[.slice none 0 0] 37 ∧ Fr [] w w'
theorem nall (w : World) (p : Option Addr) (h : Nul w p) : Calls Try.prog 43 #[.pointer p] w (NoAll w) := by
  have HL := Lib.hid (nlen _ p (h.fr ((Fr.refl [] w).alloc (.cells #[.slice none 0 0] 37))))
  clear h
  go_enter Try.func43, Try.ntmps43
  go_wp2_with fail
  (with_reducible refine HL.out.mono ?_)
  rintro e w1 ⟨rfl, rfl⟩
  go_wp2_with fail
  refine wp_loop_rounds 1 ?_
  rw [rounds_succ]
  go_wp2
  go_ret
  exact ⟨_, rfl, Blk.new _ _ _, (Fr.refl _ _).alloc _⟩

end Go.Proofs.Ytehdhdocalbfpaa
