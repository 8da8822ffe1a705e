/-
  Books: In, Enter, AddFence.
-/
import Derived.Test.YtgoolkgjcmdilaaDoorTraB
namespace Go.Proofs.YtgoolkgjcmdilaaDoor
open Go.RowKit
set_option linter.unusedVariables false
set_option linter.unusedSimpArgs false
attribute [local go_sem] Oper.semAt_some

set_option maxRecDepth 100000 in
theorem in_yes (w : World) (k bO bN bP : Nat) (v u : Value) (Os : List (Int × Nat)) (Fs : List (Int × Int)) (rO rN id fe : Int) (x : Nat) (p : Int) (bB : Nat) (vB : Value) (B : List Bool) (ws : List Nat) (i1 i2 i3 i4 i5 : Int) (sp : Nat)
    (h : BkAt w k bO bN bP) (hO : TabO w bO v Os rO) (hN : TabN w bN u Fs rN) (hi : U32 id) (hf : U32 fe) (hx : Os[rank Os id]? = some (id, x)) (hp : Fs[rank Fs fe]? = some (fe, p)) (hX : ObAt w x bB i1 i2 i3 i4 i5 sp) (hB : BitsAt w bB vB B ws) :
    Calls Tryd.prog 96 #[.pointer (some ⟨k, 0, none⟩), .int .u32 id, .int .u32 fe] w fun e w' => e = .returned (.bool (hasB B p)) ∧ Fr [] w w' := by
  have HC := Lib.hid (both_yes w k bO bN bP v u Os Fs rO rN id fe x p h hO hN hi hf hx hp)
  have HH := Lib.hid (And.intro hX hB)
  clear h hO hN hi hf hx hp hX hB
  go_enter Tryd.func96, Tryd.ntmps96
  go_wp2_with fail
  (with_reducible refine (HC.out).mono ?_)
  rintro e w1 ⟨rfl, f1⟩
  have c0 := Blk.at (f1.blk HH.out.1 (by simp)) 0 (v := .pointer (some ⟨bB, 0, none⟩)) rfl
  have HF := Lib.hid f1
  clear f1
  go_wp2_with fail
  (with_reducible refine (has_any w1 bB vB B ws p (HH.out.2.grow HF.out)).mono ?_)
  rintro e w2 ⟨rfl, rfl⟩
  go_wp2_with fail
  refine bodyPost_ret (v := .bool (hasB B p)) (by simp [results, Tryd.results96, go_sem]) rfl ⟨rfl, HF.out⟩
set_option maxRecDepth 100000 in
theorem in_lost (w : World) (k bO bN bP : Nat) (v u : Value) (Os : List (Int × Nat)) (Fs : List (Int × Int)) (rO rN id fe : Int)
    (h : BkAt w k bO bN bP) (hO : TabO w bO v Os rO) (hN : TabN w bN u Fs rN) (hi : U32 id) (hf : U32 fe) (hl : hasId Os id = false ∨ hasId Fs fe = false) :
    Calls Tryd.prog 96 #[.pointer (some ⟨k, 0, none⟩), .int .u32 id, .int .u32 fe] w fun e w' => e = .returned (.bool false) ∧ Fr [] w w' := by
  have HC := Lib.hid (both_lost w k bO bN bP v u Os Fs rO rN id fe h hO hN hi hf hl)
  clear h hO hN hi hf hl
  go_enter Tryd.func96, Tryd.ntmps96
  go_wp2_with fail
  (with_reducible refine (HC.out).mono ?_)
  rintro e w1 ⟨rfl, f1⟩
  have HF := Lib.hid f1
  clear f1
  go_wp2_with fail
  refine bodyPost_ret (v := .bool false) (by simp [results, Tryd.results96, go_sem]) rfl ⟨rfl, HF.out⟩
set_option maxRecDepth 100000 in
theorem enter_yes (w : World) (k bO bN bP : Nat) (v u : Value) (Os : List (Int × Nat)) (Fs : List (Int × Int)) (rO rN id fe : Int) (x : Nat) (p : Int) (bB : Nat) (vB : Value) (B : List Bool) (ws : List Nat) (i1 i2 i3 i4 i5 : Int) (sp : Nat)
    (h : BkAt w k bO bN bP) (hO : TabO w bO v Os rO) (hN : TabN w bN u Fs rN) (hi : U32 id) (hf : U32 fe) (hx : Os[rank Os id]? = some (id, x)) (hp : Fs[rank Fs fe]? = some (fe, p)) (hX : ObAt w x bB i1 i2 i3 i4 i5 sp) (hB : BitsAt w bB vB B ws) :
    Calls Tryd.prog 95 #[.pointer (some ⟨k, 0, none⟩), .int .u32 id, .int .u32 fe] w fun e w' => e = .returned (.tuple #[.bool (addA B p), .int .i64 0]) ∧ (∃ ws', BitsAt w' bB vB (addB B p) ws') ∧ Fr vB.ownBlock.toList w w' := by
  have HC := Lib.hid (both_yes w k bO bN bP v u Os Fs rO rN id fe x p h hO hN hi hf hx hp)
  have HH := Lib.hid (And.intro hX hB)
  clear h hO hN hi hf hx hp hX hB
  go_enter Tryd.func95, Tryd.ntmps95
  go_wp2_with fail
  (with_reducible refine (HC.out).mono ?_)
  rintro e w1 ⟨rfl, f1⟩
  have c0 := Blk.at (f1.blk HH.out.1 (by simp)) 0 (v := .pointer (some ⟨bB, 0, none⟩)) rfl
  have HF := Lib.hid f1
  clear f1
  go_wp2_with fail
  (with_reducible refine (add_any w1 bB vB B ws p (HH.out.2.grow HF.out)).mono ?_)
  rintro e w2 ⟨rfl, hb, f2⟩
  have HR := Lib.hid (And.intro hb f2)
  clear hb f2
  go_wp2_with fail
  refine bodyPost_ret (v := .tuple #[.bool (addA B p), .int .i64 0]) (by simp [results, Tryd.results95, go_sem]) rfl ⟨rfl, HR.out.1, (HF.out.mono (T := vB.ownBlock.toList) (by simp)).trans HR.out.2 (fun s hs => .inl hs)⟩
set_option maxRecDepth 100000 in
theorem enter_lost (w : World) (k bO bN bP : Nat) (v u : Value) (Os : List (Int × Nat)) (Fs : List (Int × Int)) (rO rN id fe : Int)
    (h : BkAt w k bO bN bP) (hO : TabO w bO v Os rO) (hN : TabN w bN u Fs rN) (hi : U32 id) (hf : U32 fe) (hl : hasId Os id = false ∨ hasId Fs fe = false) :
    Calls Tryd.prog 95 #[.pointer (some ⟨k, 0, none⟩), .int .u32 id, .int .u32 fe] w fun e w' => e = .returned (.tuple #[.bool false, .int .i64 181]) ∧ Fr [] w w' := by
  have HC := Lib.hid (both_lost w k bO bN bP v u Os Fs rO rN id fe h hO hN hi hf hl)
  clear h hO hN hi hf hl
  go_enter Tryd.func95, Tryd.ntmps95
  go_wp2_with fail
  (with_reducible refine (HC.out).mono ?_)
  rintro e w1 ⟨rfl, f1⟩
  have HF := Lib.hid f1
  clear f1
  go_wp2_with fail
  refine bodyPost_ret (v := .tuple #[.bool false, .int .i64 181]) (by simp [results, Tryd.results95, go_sem]) rfl ⟨rfl, HF.out⟩
set_option maxRecDepth 100000 in
theorem addF_was (w : World) (k bO bN bP : Nat) (u : Value) (Fs : List (Int × Int)) (rN fe : Int)
    (h : BkAt w k bO bN bP) (hN : TabN w bN u Fs rN) (hf : U32 fe) (hl : hasId Fs fe = true) :
    Calls Tryd.prog 94 #[.pointer (some ⟨k, 0, none⟩), .int .u32 fe] w fun e w' => e = .returned (.int .i64 180) ∧ Fr [] w w' := by
  obtain ⟨z, hz⟩ := (has_at hN.up fe).1 hl
  have c1 := Blk.at h 1 (v := .pointer (some ⟨bN, 0, none⟩)) rfl
  have HC := Lib.hid (getN_yes w bN u Fs rN fe z hN hf hz)
  have HH := Lib.hid h
  clear h hN hf hl hz
  go_enter Tryd.func94, Tryd.ntmps94
  go_wp2_with fail
  (with_reducible refine (there_yes _ k bO bN bP HH.out).mono ?_)
  rintro e w1 ⟨rfl, rfl⟩
  go_wp2_with fail
  (with_reducible refine (HC.out).mono ?_)
  rintro e w1 ⟨rfl, f1⟩
  have HF := Lib.hid f1
  clear f1 c1
  go_wp2_with fail
  refine bodyPost_ret (v := .int .i64 180) (by simp [results, Tryd.results94, go_sem]) rfl ⟨rfl, HF.out⟩
set_option maxRecDepth 100000 in
theorem addF_full (w : World) (k bO bN bP : Nat) (u vP : Value) (Fs : List (Int × Int)) (rN fe : Int) (B : List Bool) (ws : List Nat)
    (h : BkAt w k bO bN bP) (hN : TabN w bN u Fs rN) (hB : BitsAt w bP vP B ws) (hT : DeB w) (hf : U32 fe) (hl : hasId Fs fe = false) (hfree : ∀ a, FirstAt B 0 false a → a < 0) :
    Calls Tryd.prog 94 #[.pointer (some ⟨k, 0, none⟩), .int .u32 fe] w fun e w' => e = .returned (.int .i64 5) ∧ Fr [] w w' := by
  have c1 := Blk.at h 1 (v := .pointer (some ⟨bN, 0, none⟩)) rfl
  have HC := Lib.hid (getN_no w bN u Fs rN fe hN hf hl)
  have HH := Lib.hid (And.intro h (And.intro hB (And.intro hT hfree)))
  clear h hN hB hT hf hl hfree
  go_enter Tryd.func94, Tryd.ntmps94
  go_wp2_with fail
  (with_reducible refine (there_yes _ k bO bN bP HH.out.1).mono ?_)
  rintro e w1 ⟨rfl, rfl⟩
  go_wp2_with fail
  (with_reducible refine (HC.out).mono ?_)
  rintro e w1 ⟨rfl, f1⟩
  have c2 := Blk.at (HH.out.1.grow f1) 2 (v := .pointer (some ⟨bP, 0, none⟩)) rfl
  have HF := Lib.hid f1
  clear f1 c1
  go_wp2_with fail
  (with_reducible refine (freeZ_any w1 bP vP B ws 0 (HH.out.2.1.grow HF.out) (deB_fr2 HH.out.2.2.1 HF.out)).mono ?_)
  rintro e w2 ⟨a, rfl, ha, rfl⟩
  have ha0 : a < 0 := HH.out.2.2.2 a ha
  clear ha
  go_wp2_with fail
  refine bodyPost_ret (v := .int .i64 5) (by simp [results, Tryd.results94, go_sem]) rfl ⟨rfl, HF.out⟩
end Go.Proofs.YtgoolkgjcmdilaaDoor
