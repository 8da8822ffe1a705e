/-
  Books: both, In, Enter.
-/
import Derived.Test.YtgoolkgjcmdilaaDoorTraA
import Derived.Test.YtgoolkgjcmdilaaDoorBiJ
namespace Go.Proofs.YtgoolkgjcmdilaaDoor
open Go.RowKit
set_option linter.unusedVariables false
set_option linter.unusedSimpArgs false
attribute [local go_sem] Oper.semAt_some

set_option maxRecDepth 100000 in
theorem both_yes (w : World) (k bO bN bP : Nat) (v u : Value) (Os : List (Int × Nat)) (Fs : List (Int × Int)) (rO rN id fe : Int) (x : Nat) (p : Int)
    (h : BkAt w k bO bN bP) (hO : TabO w bO v Os rO) (hN : TabN w bN u Fs rN) (hi : U32 id) (hf : U32 fe) (hx : Os[rank Os id]? = some (id, x)) (hp : Fs[rank Fs fe]? = some (fe, p)) :
    Calls Tryd.prog 137 #[.pointer (some ⟨k, 0, none⟩), .int .u32 id, .int .u32 fe] w fun e w' => e = .returned (.tuple #[.pointer (some ⟨x, 0, none⟩), .int .i64 p, .int .i64 0]) ∧ Fr [] w w' := by
  have c0 := Blk.at h 0 (v := .pointer (some ⟨bO, 0, none⟩)) rfl
  have HH := Lib.hid (And.intro h (And.intro hO (And.intro hN (And.intro hi (And.intro hf (And.intro hx hp))))))
  clear h hO hN hi hf hx hp
  go_enter Tryd.func137, Tryd.ntmps137
  go_wp2_with fail
  (with_reducible refine (there_yes _ k bO bN bP HH.out.1).mono ?_)
  rintro e w1 ⟨rfl, rfl⟩
  go_wp2_with fail
  (with_reducible refine (getO_yes _ bO v Os rO id x HH.out.2.1 HH.out.2.2.2.1 HH.out.2.2.2.2.2.1).mono ?_)
  rintro e w1 ⟨rfl, f1⟩
  have c1 := Blk.at (HH.out.1.grow f1) 1 (v := .pointer (some ⟨bN, 0, none⟩)) rfl
  have HF := Lib.hid f1
  clear f1 c0
  go_wp2_with fail
  (with_reducible refine (getN_yes _ bN u Fs rN fe p (HH.out.2.2.1.grow HF.out) HH.out.2.2.2.2.1 HH.out.2.2.2.2.2.2).mono ?_)
  rintro e w2 ⟨rfl, f2⟩
  have HF2 := Lib.hid f2
  clear f2 c1
  go_wp2_with fail
  refine bodyPost_ret (v := .tuple #[.pointer (some ⟨x, 0, none⟩), .int .i64 p, .int .i64 0]) (by simp [results, Tryd.results137, go_sem]) rfl ⟨rfl, HF.out.trans HF2.out (by simp)⟩
set_option maxRecDepth 100000 in
theorem both_lost (w : World) (k bO bN bP : Nat) (v u : Value) (Os : List (Int × Nat)) (Fs : List (Int × Int)) (rO rN id fe : Int)
    (h : BkAt w k bO bN bP) (hO : TabO w bO v Os rO) (hN : TabN w bN u Fs rN) (hi : U32 id) (hf : U32 fe) (hl : hasId Os id = false ∨ hasId Fs fe = false) :
    Calls Tryd.prog 137 #[.pointer (some ⟨k, 0, none⟩), .int .u32 id, .int .u32 fe] w fun e w' => e = .returned (.tuple #[.pointer none, .int .i64 0, .int .i64 181]) ∧ Fr [] w w' := by
  have c0 := Blk.at h 0 (v := .pointer (some ⟨bO, 0, none⟩)) rfl
  have HO : ∃ y a, Calls Tryd.prog 133 #[.pointer (some ⟨bO, 0, none⟩), .int .u32 id] w (fun e w' => e = .returned (.tuple #[.pointer y, .bool a]) ∧ Fr [] w w') ∧ (a = false ∨ hasId Fs fe = false) := by
    cases ho : hasId Os id with
    | true =>
      obtain ⟨x, hx⟩ := (has_at hO.up id).1 ho
      exact ⟨some ⟨x, 0, none⟩, true, getO_yes w bO v Os rO id x hO hi hx, .inr (hl.resolve_left (by simp [ho]))⟩
    | false => exact ⟨none, false, getO_no w bO v Os rO id hO hi ho, .inl rfl⟩
  obtain ⟨y, a, hg, ha⟩ := HO
  have HG := Lib.hid hg
  have HA := Lib.hid ha
  have HH := Lib.hid (And.intro h (And.intro hN hf))
  clear h hO hN hi hf hl hg ha
  go_enter Tryd.func137, Tryd.ntmps137
  go_wp2_with fail
  (with_reducible refine (there_yes _ k bO bN bP HH.out.1).mono ?_)
  rintro e w1 ⟨rfl, rfl⟩
  go_wp2_with fail
  (with_reducible refine (HG.out).mono ?_)
  rintro e w1 ⟨rfl, f1⟩
  have c1 := Blk.at (HH.out.1.grow f1) 1 (v := .pointer (some ⟨bN, 0, none⟩)) rfl
  have HN : ∃ z c, Calls Tryd.prog 126 #[.pointer (some ⟨bN, 0, none⟩), .int .u32 fe] w1 (fun e w' => e = .returned (.tuple #[.int .i64 z, .bool c]) ∧ Fr [] w1 w') ∧ (a = false ∨ c = false) := by
    have ht := HH.out.2.1.grow f1
    cases ho : hasId Fs fe with
    | true =>
      obtain ⟨z, hz⟩ := (has_at ht.up fe).1 ho
      exact ⟨z, true, getN_yes w1 bN u Fs rN fe z ht HH.out.2.2 hz, .inl (HA.out.resolve_right (by simp [ho]))⟩
    | false => exact ⟨0, false, getN_no w1 bN u Fs rN fe ht HH.out.2.2 ho, .inr rfl⟩
  obtain ⟨z, c, hg, hc⟩ := HN
  have HG2 := Lib.hid hg
  have HF := Lib.hid f1
  clear f1 c0 hg HA
  go_wp2_with fail
  (with_reducible refine (HG2.out).mono ?_)
  rintro e w2 ⟨rfl, f2⟩
  have HF2 := Lib.hid f2
  clear f2 c1
  cases a with
  | false =>
    clear hc
    go_wp2_with fail
    refine bodyPost_ret (v := .tuple #[.pointer none, .int .i64 0, .int .i64 181]) (by simp [results, Tryd.results137, go_sem]) rfl ⟨rfl, HF.out.trans HF2.out (by simp)⟩
  | true =>
    obtain rfl : c = false := hc.resolve_left (by simp)
    go_wp2_with fail
    refine bodyPost_ret (v := .tuple #[.pointer none, .int .i64 0, .int .i64 181]) (by simp [results, Tryd.results137, go_sem]) rfl ⟨rfl, HF.out.trans HF2.out (by simp)⟩
end Go.Proofs.YtgoolkgjcmdilaaDoor
