/-
  Sets that NewBits did not make: nil, or zero; bit as one contract.
-/
import Derived.Test.YtgoolkgjcmdilaaDoorBiK
namespace Go.Proofs.YtgoolkgjcmdilaaDoor
open Go.RowKit
set_option linter.unusedVariables false
set_option linter.unusedSimpArgs false
attribute [local go_sem] Oper.semAt_some

def NoB (W : World) (p : Value) : Prop := p = .pointer none ∨ ∃ b, p = .pointer (some ⟨b, 0, none⟩) ∧ Blk W b #[.int .i64 0, .slice none 0 0] 90
theorem nob_nil (W : World) : NoB W (.pointer none) := by unfold NoB; exact .inl rfl
theorem NoB.grow {W W' : World} {p : Value} (h : NoB W p) (f : Fr [] W W') : NoB W' p := by
  rcases h with h | ⟨b, h, hb⟩
  · exact .inl h
  · exact .inr ⟨b, h, f.blk hb (by simp)⟩
theorem blive_none (w : World) (p : Value) (h : NoB w p) : Calls Tryd.prog 75 #[p] w fun e w' => e = .returned (.bool false) ∧ w = w' := by
  rcases h with rfl | ⟨b, rfl, hb⟩
  · go_enter Tryd.func75, Tryd.ntmps75
    go_wp2
    go_ret
    exact ⟨rfl, rfl⟩
  · have c1 := hb.at 1 (v := .slice none 0 0) rfl
    go_enter Tryd.func75, Tryd.ntmps75
    go_wp2
    go_ret
    exact ⟨rfl, rfl⟩
theorem may_none (w : World) (p : Value) (h : NoB w p) : Calls Tryd.prog 90 #[p, .int .i64 0] w fun e w' => e = .returned (.bool false) ∧ w = w' := by
  rcases h with rfl | ⟨b, rfl, hb⟩
  · go_enter Tryd.func90, Tryd.ntmps90
    go_wp2
    go_ret
    exact ⟨rfl, rfl⟩
  · have c1 := hb.at 0 (v := .int .i64 0) rfl
    go_enter Tryd.func90, Tryd.ntmps90
    go_wp2
    go_ret
    exact ⟨rfl, rfl⟩
theorem add_none (w : World) (p : Value) (h : NoB w p) : Calls Tryd.prog 34 #[p, .int .i64 0] w fun e w' => e = .returned (.bool false) ∧ w = w' := by
  have HM := Lib.hid (may_none w p h)
  clear h
  go_enter Tryd.func34, Tryd.ntmps34
  go_wp2_with fail
  (with_reducible refine (HM.out).mono ?_)
  rintro e w1 ⟨rfl, rfl⟩
  go_wp2
  go_ret
  exact ⟨rfl, rfl⟩
theorem first_none (w : World) (p : Value) (k : Int) (c : Bool) (h : NoB w p) : Calls Tryd.prog 92 #[p, .int .i64 k, .bool c] w fun e w' => e = .returned (.int .i64 0) ∧ w = w' := by
  have HM := Lib.hid (blive_none w p h)
  clear h
  go_enter Tryd.func92, Tryd.ntmps92
  go_wp2_with fail
  (with_reducible refine (HM.out).mono ?_)
  rintro e w1 ⟨rfl, rfl⟩
  go_wp2
  go_ret
  exact ⟨rfl, rfl⟩
theorem least_none (w : World) (p : Value) (k : Int) (h : NoB w p) : Calls Tryd.prog 36 #[p, .int .i64 k] w fun e w' => e = .returned (.int .i64 0) ∧ w = w' := by
  have HM := Lib.hid (first_none w p k true h)
  clear h
  go_enter Tryd.func36, Tryd.ntmps36
  go_wp2_with fail
  (with_reducible refine (HM.out).mono ?_)
  rintro e w1 ⟨rfl, rfl⟩
  go_wp2
  go_ret
  exact ⟨rfl, rfl⟩
theorem free_none (w : World) (p : Value) (k : Int) (h : NoB w p) : Calls Tryd.prog 37 #[p, .int .i64 k] w fun e w' => e = .returned (.int .i64 0) ∧ w = w' := by
  have HM := Lib.hid (first_none w p k false h)
  clear h
  go_enter Tryd.func37, Tryd.ntmps37
  go_wp2_with fail
  (with_reducible refine (HM.out).mono ?_)
  rintro e w1 ⟨rfl, rfl⟩
  go_wp2
  go_ret
  exact ⟨rfl, rfl⟩
theorem allb_none (w : World) (p : Value) (h : NoB w p) : Calls Tryd.prog 27 #[p] w fun e w' => e = .returned (.func (.func 76) #[] #[]) ∧ w = w' := by
  have HM := Lib.hid (blive_none w p h)
  clear h
  go_enter Tryd.func27, Tryd.ntmps27
  go_wp2_with fail
  (with_reducible refine (HM.out).mono ?_)
  rintro e w1 ⟨rfl, rfl⟩
  go_wp2
  go_ret
  exact ⟨rfl, rfl⟩
theorem with_no1 (w : World) (p q k : Value) (h : NoB w p) : Calls Tryd.prog 86 #[p, q, k] w fun e w' => e = .returned (.int .i64 1) ∧ w = w' := by
  have HM := Lib.hid (blive_none w p h)
  clear h
  go_enter Tryd.func86, Tryd.ntmps86
  go_wp2_with fail
  (with_reducible refine (HM.out).mono ?_)
  rintro e w1 ⟨rfl, rfl⟩
  go_wp2
  go_ret
  exact ⟨rfl, rfl⟩
theorem with_no2 (w : World) (b : Nat) (v : Value) (B : List Bool) (ws : List Nat) (q k : Value) (hb : BitsAt w b v B ws) (h : NoB w q) : Calls Tryd.prog 86 #[.pointer (some ⟨b, 0, none⟩), q, k] w fun e w' => e = .returned (.int .i64 1) ∧ w = w' := by
  have HM := Lib.hid (blive_none w q h)
  have HB := Lib.hid (blive_any w b v B ws hb)
  clear h hb
  go_enter Tryd.func86, Tryd.ntmps86
  go_wp2_with fail
  (with_reducible refine (HB.out).mono ?_)
  rintro e w1 ⟨rfl, rfl⟩
  go_wp2_with fail
  (with_reducible refine (HM.out).mono ?_)
  rintro e w1 ⟨rfl, rfl⟩
  go_wp2
  go_ret
  exact ⟨rfl, rfl⟩
theorem join_no2 (w : World) (b : Nat) (v : Value) (B : List Bool) (ws : List Nat) (q : Value) (hb : BitsAt w b v B ws) (h : NoB w q) : Calls Tryd.prog 31 #[.pointer (some ⟨b, 0, none⟩), q] w fun e w' => e = .returned (.int .i64 1) ∧ w = w' := by
  have HM := Lib.hid (with_no2 w b v B ws q (.func (.func 87) #[] #[]) hb h)
  clear h hb
  go_enter Tryd.func31, Tryd.ntmps31
  go_wp2_with fail
  (with_reducible refine (HM.out).mono ?_)
  rintro e w1 ⟨rfl, rfl⟩
  go_wp2
  go_ret
  exact ⟨rfl, rfl⟩
theorem cut_no2 (w : World) (b : Nat) (v : Value) (B : List Bool) (ws : List Nat) (q : Value) (hb : BitsAt w b v B ws) (h : NoB w q) : Calls Tryd.prog 33 #[.pointer (some ⟨b, 0, none⟩), q] w fun e w' => e = .returned (.int .i64 1) ∧ w = w' := by
  have HM := Lib.hid (with_no2 w b v B ws q (.func (.func 89) #[] #[]) hb h)
  clear h hb
  go_enter Tryd.func33, Tryd.ntmps33
  go_wp2_with fail
  (with_reducible refine (HM.out).mono ?_)
  rintro e w1 ⟨rfl, rfl⟩
  go_wp2
  go_ret
  exact ⟨rfl, rfl⟩
theorem meet_no1 (w : World) (p q : Value) (h : NoB w p) : Calls Tryd.prog 32 #[p, q] w fun e w' => e = .returned (.int .i64 1) ∧ w = w' := by
  have HM := Lib.hid (with_no1 w p q (.func (.func 88) #[] #[]) h)
  clear h
  go_enter Tryd.func32, Tryd.ntmps32
  go_wp2_with fail
  (with_reducible refine (HM.out).mono ?_)
  rintro e w1 ⟨rfl, rfl⟩
  go_wp2
  go_ret
  exact ⟨rfl, rfl⟩
theorem cut_no1 (w : World) (p q : Value) (h : NoB w p) : Calls Tryd.prog 33 #[p, q] w fun e w' => e = .returned (.int .i64 1) ∧ w = w' := by
  have HM := Lib.hid (with_no1 w p q (.func (.func 89) #[] #[]) h)
  clear h
  go_enter Tryd.func33, Tryd.ntmps33
  go_wp2_with fail
  (with_reducible refine (HM.out).mono ?_)
  rintro e w1 ⟨rfl, rfl⟩
  go_wp2
  go_ret
  exact ⟨rfl, rfl⟩
/-- A step on sets. -/
structure Btt where
  «do» : Int
  on : Int
  wi : Int
  i : Int
def Btt.val' (x : Btt) : Value := .agg #[.int .i64 x.do, .int .i64 x.on, .int .i64 x.wi, .int .i64 x.i]
def stepB (B C : List Bool) (x : Btt) : List Bool :=
  if x.do = 0 then addB B x.i else if x.do = 1 then delB B x.i else if B.length = C.length then (if x.do = 6 then zipB joinF B C else if x.do = 7 then zipB cutF B C else if x.do = 8 then zipB meetF B C else B) else B
theorem bit_any (w : World) (b c m n : Nat) (v u v2 u2 : Value) (B C : List Bool) (x : Btt) (h1 : PB b m v u B w) (h2 : PB c n v2 u2 C w) (hT : DeB w) :
    Calls Tryd.prog 30 #[.pointer (some ⟨b, 0, none⟩), .pointer (some ⟨c, 0, none⟩), .pointer (some ⟨m, 0, none⟩), .pointer (some ⟨n, 0, none⟩), x.val'] w (BitPost w b m v u (stepB B C x)) := by
  obtain ⟨d, o, wi, i⟩ := x
  unfold stepB Btt.val'
  dsimp only
  by_cases e0 : d = 0
  · subst e0; rw [if_pos rfl]; exact bit_add w b c m n v u v2 u2 B C o wi i h1 h2 hT
  rw [if_neg e0]
  by_cases e1 : d = 1
  · subst e1; rw [if_pos rfl]; exact bit_del w b c m n v u v2 u2 B C o wi i h1 h2 hT
  rw [if_neg e1]
  by_cases e6 : d = 6
  · subst e6; rw [if_pos rfl]
    by_cases hl : B.length = C.length
    · rw [if_pos hl]; exact bit_join w b c m n v u v2 u2 B C o wi i h1 h2 hT (Lib.hid hl)
    · rw [if_neg hl]; exact bit_join_ne w b c m n v u v2 u2 B C o wi i h1 h2 hT (Lib.hid hl)
  rw [if_neg e6]
  by_cases e7 : d = 7
  · subst e7; rw [if_pos rfl]
    by_cases hl : B.length = C.length
    · rw [if_pos hl]; exact bit_cut w b c m n v u v2 u2 B C o wi i h1 h2 hT (Lib.hid hl)
    · rw [if_neg hl]; exact bit_cut_ne w b c m n v u v2 u2 B C o wi i h1 h2 hT (Lib.hid hl)
  rw [if_neg e7]
  by_cases e8 : d = 8
  · subst e8; rw [if_pos rfl]
    by_cases hl : B.length = C.length
    · rw [if_pos hl]; exact bit_meet w b c m n v u v2 u2 B C o wi i h1 h2 hT (Lib.hid hl)
    · rw [if_neg hl]; exact bit_meet_ne w b c m n v u v2 u2 B C o wi i h1 h2 hT (Lib.hid hl)
  rw [if_neg e8]
  have hs : (if B.length = C.length then B else B) = B := by split <;> rfl
  rw [hs]
  by_cases e2 : d = 2
  · subst e2; exact bit_has w b c m n v u v2 u2 B C o wi i h1 h2 hT
  by_cases e3 : d = 3
  · subst e3; exact bit_count w b c m n v u v2 u2 B C o wi i h1 h2 hT
  by_cases e4 : d = 4
  · subst e4; exact bit_least w b c m n v u v2 u2 B C o wi i h1 h2 hT
  by_cases e5 : d = 5
  · subst e5; exact bit_free w b c m n v u v2 u2 B C o wi i h1 h2 hT
  by_cases e9 : d = 9
  · subst e9; exact bit_all w b c m n v u v2 u2 B C o wi i h1 h2 hT
  refine bit_other w b c m n v u v2 u2 B C d o wi i h1 (fun k hk => ?_)
  have : k = 0 ∨ k = 1 ∨ k = 2 ∨ k = 3 ∨ k = 4 ∨ k = 5 ∨ k = 6 ∨ k = 7 ∨ k = 8 ∨ k = 9 := by omega
  rcases this with rfl | rfl | rfl | rfl | rfl | rfl | rfl | rfl | rfl | rfl <;> assumption
end Go.Proofs.YtgoolkgjcmdilaaDoor
