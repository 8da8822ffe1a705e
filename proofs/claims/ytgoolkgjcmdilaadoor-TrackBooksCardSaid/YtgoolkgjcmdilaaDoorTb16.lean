/-
  Tb, part 16 of 36: the texts TraB TraC TraD TraF Hed.
-/
import Derived.Test.YtgoolkgjcmdilaaDoorProg
import Derived.Lib.Mul64
import Derived.Laws.Bits64b
import Derived.Test.YtgoolkgjcmdilaaDoorTb1
import Derived.Test.YtgoolkgjcmdilaaDoorTb13
import Derived.Test.YtgoolkgjcmdilaaDoorTb15
section
namespace Go.Proofs.YtgoolkgjcmdilaaDoor
open Go.RowKit
set_option linter.unusedVariables false
set_option linter.unusedSimpArgs false
attribute [local go_sem] Oper.semAt_some
set_option maxRecDepth 100000 in
theorem both_yes (w : World) (k bO bN bP : Nat) (v u : Value) (Os : List (Int × Nat)) (Fs : List (Int × Int)) (rO rN id fe : Int) (x : Nat) (p : Int)
    (h : BkAt w k bO bN bP) (hO : TabO w bO v Os rO) (hN : TabN w bN u Fs rN) (hi : U32 id) (hf : U32 fe) (hx : Os[rank Os id]? = some (id, x)) (hp : Fs[rank Fs fe]? = some (fe, p)) :
    Calls Tryd.prog 137 #[.pointer (some ⟨k, 0, none⟩), .int .u32 id, .int .u32 fe] w fun e w' => e = .returned (.tuple #[.pointer (some ⟨x, 0, none⟩), .int .i64 p, .int .i64 0]) ∧ Fr [] w w' := by
  have c0 := Blk.at h 0 (v := .pointer (some ⟨bO, 0, none⟩)) rfl
  have HH := Lib.hid (And.intro h (And.intro hO (And.intro hN (And.intro hi (And.intro hf (And.intro hx hp))))))
  clear h hO hN hi hf hx hp
  go_enter Tryd.func137, Tryd.ntmps137
  go_wp2_with fail
  (with_reducible refine (there_yes _ k bO bN bP HH.out.1).mono ?_)
  rintro e w1 ⟨rfl, rfl⟩
  go_wp2_with fail
  (with_reducible refine (getO_yes _ bO v Os rO id x HH.out.2.1 HH.out.2.2.2.1 HH.out.2.2.2.2.2.1).mono ?_)
  rintro e w1 ⟨rfl, f1⟩
  have c1 := Blk.at (HH.out.1.grow f1) 1 (v := .pointer (some ⟨bN, 0, none⟩)) rfl
  have HF := Lib.hid f1
  clear f1 c0
  go_wp2_with fail
  (with_reducible refine (getN_yes _ bN u Fs rN fe p (HH.out.2.2.1.grow HF.out) HH.out.2.2.2.2.1 HH.out.2.2.2.2.2.2).mono ?_)
  rintro e w2 ⟨rfl, f2⟩
  have HF2 := Lib.hid f2
  clear f2 c1
  go_wp2_with fail
  refine bodyPost_ret (v := .tuple #[.pointer (some ⟨x, 0, none⟩), .int .i64 p, .int .i64 0]) (by simp [results, Tryd.results137, go_sem]) rfl ⟨rfl, HF.out.trans HF2.out (by simp)⟩
set_option maxRecDepth 100000 in
theorem both_lost (w : World) (k bO bN bP : Nat) (v u : Value) (Os : List (Int × Nat)) (Fs : List (Int × Int)) (rO rN id fe : Int)
    (h : BkAt w k bO bN bP) (hO : TabO w bO v Os rO) (hN : TabN w bN u Fs rN) (hi : U32 id) (hf : U32 fe) (hl : hasId Os id = false ∨ hasId Fs fe = false) :
    Calls Tryd.prog 137 #[.pointer (some ⟨k, 0, none⟩), .int .u32 id, .int .u32 fe] w fun e w' => e = .returned (.tuple #[.pointer none, .int .i64 0, .int .i64 181]) ∧ Fr [] w w' := by
  have c0 := Blk.at h 0 (v := .pointer (some ⟨bO, 0, none⟩)) rfl
  have HO : ∃ y a, Calls Tryd.prog 133 #[.pointer (some ⟨bO, 0, none⟩), .int .u32 id] w (fun e w' => e = .returned (.tuple #[.pointer y, .bool a]) ∧ Fr [] w w') ∧ (a = false ∨ hasId Fs fe = false) := by
    cases ho : hasId Os id with
    | true =>
      obtain ⟨x, hx⟩ := (has_at hO.up id).1 ho
      exact ⟨some ⟨x, 0, none⟩, true, getO_yes w bO v Os rO id x hO hi hx, .inr (hl.resolve_left (by simp [ho]))⟩
    | false => exact ⟨none, false, getO_no w bO v Os rO id hO hi ho, .inl rfl⟩
  obtain ⟨y, a, hg, ha⟩ := HO
  have HG := Lib.hid hg
  have HA := Lib.hid ha
  have HH := Lib.hid (And.intro h (And.intro hN hf))
  clear h hO hN hi hf hl hg ha
  go_enter Tryd.func137, Tryd.ntmps137
  go_wp2_with fail
  (with_reducible refine (there_yes _ k bO bN bP HH.out.1).mono ?_)
  rintro e w1 ⟨rfl, rfl⟩
  go_wp2_with fail
  (with_reducible refine (HG.out).mono ?_)
  rintro e w1 ⟨rfl, f1⟩
  have c1 := Blk.at (HH.out.1.grow f1) 1 (v := .pointer (some ⟨bN, 0, none⟩)) rfl
  have HN : ∃ z c, Calls Tryd.prog 126 #[.pointer (some ⟨bN, 0, none⟩), .int .u32 fe] w1 (fun e w' => e = .returned (.tuple #[.int .i64 z, .bool c]) ∧ Fr [] w1 w') ∧ (a = false ∨ c = false) := by
    have ht := HH.out.2.1.grow f1
    cases ho : hasId Fs fe with
    | true =>
      obtain ⟨z, hz⟩ := (has_at ht.up fe).1 ho
      exact ⟨z, true, getN_yes w1 bN u Fs rN fe z ht HH.out.2.2 hz, .inl (HA.out.resolve_right (by simp [ho]))⟩
    | false => exact ⟨0, false, getN_no w1 bN u Fs rN fe ht HH.out.2.2 ho, .inr rfl⟩
  obtain ⟨z, c, hg, hc⟩ := HN
  have HG2 := Lib.hid hg
  have HF := Lib.hid f1
  clear f1 c0 hg HA
  go_wp2_with fail
  (with_reducible refine (HG2.out).mono ?_)
  rintro e w2 ⟨rfl, f2⟩
  have HF2 := Lib.hid f2
  clear f2 c1
  cases a with
  | false =>
    clear hc
    go_wp2_with fail
    refine bodyPost_ret (v := .tuple #[.pointer none, .int .i64 0, .int .i64 181]) (by simp [results, Tryd.results137, go_sem]) rfl ⟨rfl, HF.out.trans HF2.out (by simp)⟩
  | true =>
    obtain rfl : c = false := hc.resolve_left (by simp)
    go_wp2_with fail
    refine bodyPost_ret (v := .tuple #[.pointer none, .int .i64 0, .int .i64 181]) (by simp [results, Tryd.results137, go_sem]) rfl ⟨rfl, HF.out.trans HF2.out (by simp)⟩
end Go.Proofs.YtgoolkgjcmdilaaDoor
end
section
namespace Go.Proofs.YtgoolkgjcmdilaaDoor
open Go.RowKit
set_option linter.unusedVariables false
set_option linter.unusedSimpArgs false
attribute [local go_sem] Oper.semAt_some
set_option maxRecDepth 100000 in
theorem in_yes (w : World) (k bO bN bP : Nat) (v u : Value) (Os : List (Int × Nat)) (Fs : List (Int × Int)) (rO rN id fe : Int) (x : Nat) (p : Int) (bB : Nat) (vB : Value) (B : List Bool) (ws : List Nat) (i1 i2 i3 i4 i5 : Int) (sp : Nat)
    (h : BkAt w k bO bN bP) (hO : TabO w bO v Os rO) (hN : TabN w bN u Fs rN) (hi : U32 id) (hf : U32 fe) (hx : Os[rank Os id]? = some (id, x)) (hp : Fs[rank Fs fe]? = some (fe, p)) (hX : ObAt w x bB i1 i2 i3 i4 i5 sp) (hB : BitsAt w bB vB B ws) :
    Calls Tryd.prog 96 #[.pointer (some ⟨k, 0, none⟩), .int .u32 id, .int .u32 fe] w fun e w' => e = .returned (.bool (hasB B p)) ∧ Fr [] w w' := by
  have HC := Lib.hid (both_yes w k bO bN bP v u Os Fs rO rN id fe x p h hO hN hi hf hx hp)
  have HH := Lib.hid (And.intro hX hB)
  clear h hO hN hi hf hx hp hX hB
  go_enter Tryd.func96, Tryd.ntmps96
  go_wp2_with fail
  (with_reducible refine (HC.out).mono ?_)
  rintro e w1 ⟨rfl, f1⟩
  have c0 := Blk.at (f1.blk HH.out.1 (by simp)) 0 (v := .pointer (some ⟨bB, 0, none⟩)) rfl
  have HF := Lib.hid f1
  clear f1
  go_wp2_with fail
  (with_reducible refine (has_any w1 bB vB B ws p (HH.out.2.grow HF.out)).mono ?_)
  rintro e w2 ⟨rfl, rfl⟩
  go_wp2_with fail
  refine bodyPost_ret (v := .bool (hasB B p)) (by simp [results, Tryd.results96, go_sem]) rfl ⟨rfl, HF.out⟩
set_option maxRecDepth 100000 in
theorem in_lost (w : World) (k bO bN bP : Nat) (v u : Value) (Os : List (Int × Nat)) (Fs : List (Int × Int)) (rO rN id fe : Int)
    (h : BkAt w k bO bN bP) (hO : TabO w bO v Os rO) (hN : TabN w bN u Fs rN) (hi : U32 id) (hf : U32 fe) (hl : hasId Os id = false ∨ hasId Fs fe = false) :
    Calls Tryd.prog 96 #[.pointer (some ⟨k, 0, none⟩), .int .u32 id, .int .u32 fe] w fun e w' => e = .returned (.bool false) ∧ Fr [] w w' := by
  have HC := Lib.hid (both_lost w k bO bN bP v u Os Fs rO rN id fe h hO hN hi hf hl)
  clear h hO hN hi hf hl
  go_enter Tryd.func96, Tryd.ntmps96
  go_wp2_with fail
  (with_reducible refine (HC.out).mono ?_)
  rintro e w1 ⟨rfl, f1⟩
  have HF := Lib.hid f1
  clear f1
  go_wp2_with fail
  refine bodyPost_ret (v := .bool false) (by simp [results, Tryd.results96, go_sem]) rfl ⟨rfl, HF.out⟩
set_option maxRecDepth 100000 in
theorem enter_yes (w : World) (k bO bN bP : Nat) (v u : Value) (Os : List (Int × Nat)) (Fs : List (Int × Int)) (rO rN id fe : Int) (x : Nat) (p : Int) (bB : Nat) (vB : Value) (B : List Bool) (ws : List Nat) (i1 i2 i3 i4 i5 : Int) (sp : Nat)
    (h : BkAt w k bO bN bP) (hO : TabO w bO v Os rO) (hN : TabN w bN u Fs rN) (hi : U32 id) (hf : U32 fe) (hx : Os[rank Os id]? = some (id, x)) (hp : Fs[rank Fs fe]? = some (fe, p)) (hX : ObAt w x bB i1 i2 i3 i4 i5 sp) (hB : BitsAt w bB vB B ws) :
    Calls Tryd.prog 95 #[.pointer (some ⟨k, 0, none⟩), .int .u32 id, .int .u32 fe] w fun e w' => e = .returned (.tuple #[.bool (addA B p), .int .i64 0]) ∧ (∃ ws', BitsAt w' bB vB (addB B p) ws') ∧ Fr vB.ownBlock.toList w w' := by
  have HC := Lib.hid (both_yes w k bO bN bP v u Os Fs rO rN id fe x p h hO hN hi hf hx hp)
  have HH := Lib.hid (And.intro hX hB)
  clear h hO hN hi hf hx hp hX hB
  go_enter Tryd.func95, Tryd.ntmps95
  go_wp2_with fail
  (with_reducible refine (HC.out).mono ?_)
  rintro e w1 ⟨rfl, f1⟩
  have c0 := Blk.at (f1.blk HH.out.1 (by simp)) 0 (v := .pointer (some ⟨bB, 0, none⟩)) rfl
  have HF := Lib.hid f1
  clear f1
  go_wp2_with fail
  (with_reducible refine (add_any w1 bB vB B ws p (HH.out.2.grow HF.out)).mono ?_)
  rintro e w2 ⟨rfl, hb, f2⟩
  have HR := Lib.hid (And.intro hb f2)
  clear hb f2
  go_wp2_with fail
  refine bodyPost_ret (v := .tuple #[.bool (addA B p), .int .i64 0]) (by simp [results, Tryd.results95, go_sem]) rfl ⟨rfl, HR.out.1, (HF.out.mono (T := vB.ownBlock.toList) (by simp)).trans HR.out.2 (fun s hs => .inl hs)⟩
set_option maxRecDepth 100000 in
theorem enter_lost (w : World) (k bO bN bP : Nat) (v u : Value) (Os : List (Int × Nat)) (Fs : List (Int × Int)) (rO rN id fe : Int)
    (h : BkAt w k bO bN bP) (hO : TabO w bO v Os rO) (hN : TabN w bN u Fs rN) (hi : U32 id) (hf : U32 fe) (hl : hasId Os id = false ∨ hasId Fs fe = false) :
    Calls Tryd.prog 95 #[.pointer (some ⟨k, 0, none⟩), .int .u32 id, .int .u32 fe] w fun e w' => e = .returned (.tuple #[.bool false, .int .i64 181]) ∧ Fr [] w w' := by
  have HC := Lib.hid (both_lost w k bO bN bP v u Os Fs rO rN id fe h hO hN hi hf hl)
  clear h hO hN hi hf hl
  go_enter Tryd.func95, Tryd.ntmps95
  go_wp2_with fail
  (with_reducible refine (HC.out).mono ?_)
  rintro e w1 ⟨rfl, f1⟩
  have HF := Lib.hid f1
  clear f1
  go_wp2_with fail
  refine bodyPost_ret (v := .tuple #[.bool false, .int .i64 181]) (by simp [results, Tryd.results95, go_sem]) rfl ⟨rfl, HF.out⟩
set_option maxRecDepth 100000 in
theorem addF_was (w : World) (k bO bN bP : Nat) (u : Value) (Fs : List (Int × Int)) (rN fe : Int)
    (h : BkAt w k bO bN bP) (hN : TabN w bN u Fs rN) (hf : U32 fe) (hl : hasId Fs fe = true) :
    Calls Tryd.prog 94 #[.pointer (some ⟨k, 0, none⟩), .int .u32 fe] w fun e w' => e = .returned (.int .i64 180) ∧ Fr [] w w' := by
  obtain ⟨z, hz⟩ := (has_at hN.up fe).1 hl
  have c1 := Blk.at h 1 (v := .pointer (some ⟨bN, 0, none⟩)) rfl
  have HC := Lib.hid (getN_yes w bN u Fs rN fe z hN hf hz)
  have HH := Lib.hid h
  clear h hN hf hl hz
  go_enter Tryd.func94, Tryd.ntmps94
  go_wp2_with fail
  (with_reducible refine (there_yes _ k bO bN bP HH.out).mono ?_)
  rintro e w1 ⟨rfl, rfl⟩
  go_wp2_with fail
  (with_reducible refine (HC.out).mono ?_)
  rintro e w1 ⟨rfl, f1⟩
  have HF := Lib.hid f1
  clear f1 c1
  go_wp2_with fail
  refine bodyPost_ret (v := .int .i64 180) (by simp [results, Tryd.results94, go_sem]) rfl ⟨rfl, HF.out⟩
set_option maxRecDepth 100000 in
theorem addF_full (w : World) (k bO bN bP : Nat) (u vP : Value) (Fs : List (Int × Int)) (rN fe : Int) (B : List Bool) (ws : List Nat)
    (h : BkAt w k bO bN bP) (hN : TabN w bN u Fs rN) (hB : BitsAt w bP vP B ws) (hT : DeB w) (hf : U32 fe) (hl : hasId Fs fe = false) (hfree : ∀ a, FirstAt B 0 false a → a < 0) :
    Calls Tryd.prog 94 #[.pointer (some ⟨k, 0, none⟩), .int .u32 fe] w fun e w' => e = .returned (.int .i64 5) ∧ Fr [] w w' := by
  have c1 := Blk.at h 1 (v := .pointer (some ⟨bN, 0, none⟩)) rfl
  have HC := Lib.hid (getN_no w bN u Fs rN fe hN hf hl)
  have HH := Lib.hid (And.intro h (And.intro hB (And.intro hT hfree)))
  clear h hN hB hT hf hl hfree
  go_enter Tryd.func94, Tryd.ntmps94
  go_wp2_with fail
  (with_reducible refine (there_yes _ k bO bN bP HH.out.1).mono ?_)
  rintro e w1 ⟨rfl, rfl⟩
  go_wp2_with fail
  (with_reducible refine (HC.out).mono ?_)
  rintro e w1 ⟨rfl, f1⟩
  have c2 := Blk.at (HH.out.1.grow f1) 2 (v := .pointer (some ⟨bP, 0, none⟩)) rfl
  have HF := Lib.hid f1
  clear f1 c1
  go_wp2_with fail
  (with_reducible refine (freeZ_any w1 bP vP B ws 0 (HH.out.2.1.grow HF.out) (deB_fr2 HH.out.2.2.1 HF.out)).mono ?_)
  rintro e w2 ⟨a, rfl, ha, rfl⟩
  have ha0 : a < 0 := HH.out.2.2.2 a ha
  clear ha
  go_wp2_with fail
  refine bodyPost_ret (v := .int .i64 5) (by simp [results, Tryd.results94, go_sem]) rfl ⟨rfl, HF.out⟩
end Go.Proofs.YtgoolkgjcmdilaaDoor
end
section
namespace Go.Proofs.YtgoolkgjcmdilaaDoor
open Go.RowKit
set_option linter.unusedVariables false
set_option linter.unusedSimpArgs false
attribute [local go_sem] Oper.semAt_some
def AddFPost (w : World) (bN bP : Nat) (u vP : Value) (Fs : List (Int × Int)) (rN fe : Int) (B : List Bool) (e : Ending) (w' : World) : Prop :=
  ∃ a u' ws', e = .returned (.int .i64 0) ∧ FirstAt B 0 false a ∧ BitsAt w' bP vP (addB B a) ws' ∧ TabN w' bN u' (insAt Fs fe a) rN ∧ (u'.ownBlock = u.ownBlock ∨ ∃ g, u'.ownBlock = some g ∧ w.heap.size ≤ g) ∧ Fr (bN :: (u.ownBlock.toList ++ vP.ownBlock.toList)) w w'
set_option maxRecDepth 100000 in
theorem addF_new (w : World) (k bO bN bP : Nat) (u vP : Value) (Fs : List (Int × Int)) (rN fe : Int) (B : List Bool) (ws : List Nat)
    (h : BkAt w k bO bN bP) (hN : TabN w bN u Fs rN) (hB : BitsAt w bP vP B ws) (hT : DeB w) (hf : U32 fe) (hl : hasId Fs fe = false) (hfree : ∀ a, FirstAt B 0 false a → 0 ≤ a) (hlen : (Fs.length : Int) < rN) :
    Calls Tryd.prog 94 #[.pointer (some ⟨k, 0, none⟩), .int .u32 fe] w (AddFPost w bN bP u vP Fs rN fe B) := by
  have c1 := Blk.at h 1 (v := .pointer (some ⟨bN, 0, none⟩)) rfl
  have HC := Lib.hid (getN_no w bN u Fs rN fe hN hf hl)
  have n1 : bN ∉ vP.ownBlock.toList := own_notin hB.own hN.hd (by decide)
  have n2 : bP ∉ u.ownBlock.toList := own_notin hN.own hB.hd (by decide)
  have n3 : bP ≠ bN := hB.hd.ne hN.hd (by decide)
  have n4 : k ∉ vP.ownBlock.toList := own_notin hB.own h (by decide)
  have n5 : ∀ g, u.ownBlock = some g → g ∉ vP.ownBlock.toList := fun g hg => own_ne3 hN.own hB.own (by decide) hg
  have n6 : ∀ g, vP.ownBlock = some g → g ∉ u.ownBlock.toList := fun g hg => own_ne3 hB.own hN.own (by decide) hg
  have HS := Lib.hid (And.intro n1 (And.intro n2 (And.intro n3 (And.intro n4 (And.intro n5 n6)))))
  have HH := Lib.hid (And.intro h (And.intro hB (And.intro hT (And.intro hfree (And.intro hN (And.intro hf (And.intro hl hlen)))))))
  clear h hN hB hT hf hl hfree hlen n1 n2 n3 n4 n5 n6
  go_enter Tryd.func94, Tryd.ntmps94
  go_wp2_with fail
  (with_reducible refine (there_yes _ k bO bN bP HH.out.1).mono ?_)
  rintro e w1 ⟨rfl, rfl⟩
  go_wp2_with fail
  (with_reducible refine (HC.out).mono ?_)
  rintro e w1 ⟨rfl, f1⟩
  have c2 := Blk.at (HH.out.1.grow f1) 2 (v := .pointer (some ⟨bP, 0, none⟩)) rfl
  have HF := Lib.hid f1
  clear f1 c1
  go_wp2_with fail
  (with_reducible refine (freeZ_any w1 bP vP B ws 0 (HH.out.2.1.grow HF.out) (deB_fr2 HH.out.2.2.1 HF.out)).mono ?_)
  rintro e w2 ⟨a, rfl, ha, rfl⟩
  have ha0 : ¬ a < 0 := by have := HH.out.2.2.2.1 a ha; omega
  have HA := Lib.hid ha
  clear ha
  go_wp2_with fail
  (with_reducible refine (add_any w1 bP vP B ws a (HH.out.2.1.grow HF.out)).mono ?_)
  rintro e w2 ⟨rfl, ⟨ws', hB2⟩, f2⟩
  have c3 := Blk.at ((HH.out.1.grow HF.out).fr f2 HS.out.2.2.2.1) 1 (v := .pointer (some ⟨bN, 0, none⟩)) rfl
  have hN2 := (HH.out.2.2.2.2.1.grow HF.out).fr f2 HS.out.1 HS.out.2.2.2.2.1
  have HB := Lib.hid (And.intro hB2 (And.intro f2 hN2))
  clear hB2 f2 hN2 c2
  go_wp2_with fail
  (with_reducible refine (putN_new w2 bN u Fs rN fe a HB.out.2.2 HH.out.2.2.2.2.2.1 HH.out.2.2.2.2.2.2.1 (by have := HH.out.2.2.2.2.2.2.2; omega)).mono ?_)
  rintro e w3 ⟨rfl, u', hT3, hv, f3⟩
  have HR := Lib.hid (And.intro hT3 (And.intro hv f3))
  clear hT3 hv f3 c3
  go_wp2_with fail
  obtain ⟨n1, n2, n3, n4, n5, n6⟩ := HS.out
  obtain ⟨hT3, hv, f3⟩ := HR.out
  obtain ⟨hB2, f2, hN2⟩ := HB.out
  have f12 := (HF.out.mono (T := vP.ownBlock.toList) (by simp)).trans f2 (fun s hs => .inl hs)
  have f13 : Fr (bN :: (u.ownBlock.toList ++ vP.ownBlock.toList)) w w3 :=
    (f12.mono (T := bN :: (u.ownBlock.toList ++ vP.ownBlock.toList)) (fun s hs => .inl (List.mem_cons_of_mem _ (List.mem_append_right _ hs)))).trans f3 (fun s hs => .inl (by
      rcases List.mem_cons.1 hs with rfl | hs
      · exact List.mem_cons_self
      · exact List.mem_cons_of_mem _ (List.mem_append_left _ hs)))
  refine bodyPost_ret (v := .int .i64 0) (by simp [results, Tryd.results94, go_sem]) rfl
    ⟨a, u', ws', rfl, HA.out, hB2.fr f3 ?_ ?_, hT3, ?_, f13⟩
  · intro hs
    rcases List.mem_cons.1 hs with h | h
    · exact n3 h
    · exact n2 h
  · intro g hg hs
    rcases List.mem_cons.1 hs with h | h
    · exact n1 (by rw [hg]; simp [h])
    · exact n6 g hg h
  · rcases hv with h | ⟨g, h, hge⟩
    · exact .inl h
    · exact .inr ⟨g, h, Nat.le_trans f12.size hge⟩
set_option maxRecDepth 100000 in
theorem move_new (w : World) (k bO bN bP : Nat) (v u : Value) (Os : List (Int × Nat)) (Fs : List (Int × Int)) (rO : Int) (rN : Nat) (id num t px py : Int)
    (h : BkAt w k bO bN bP) (hO : TabO w bO v Os rO) (hN : TabN w bN u Fs rN) (hi : U32 id) (hh : hasId Os id = false) (hlen : (Os.length : Int) < rO) :
    Calls Tryd.prog 93 #[.pointer (some ⟨k, 0, none⟩), .int .u32 id, .int .u32 num, .int .u32 t, .agg #[.int .i32 px, .int .i32 py]] w fun e w' =>
      ∃ x bB vB ws v', e = .returned (.tuple #[.agg #[.int .i32 0, .int .i32 0], .bool false, .int .i64 0]) ∧ ObAt w' x bB id num t px py 0 ∧ BitsAt w' bB vB (List.replicate rN false) ws ∧ TabO w' bO v' (insAt Os id x) rO
        ∧ (v'.ownBlock = v.ownBlock ∨ ∃ g, v'.ownBlock = some g ∧ w.heap.size ≤ g) ∧ w.heap.size ≤ x ∧ w.heap.size ≤ bB ∧ (∀ g, vB.ownBlock = some g → w.heap.size ≤ g) ∧ Fr (bO :: v.ownBlock.toList) w w' := by
  have F0 : Fr [] w ((w.alloc (.cells #[.int .i32 px, .int .i32 py] 98)).alloc (.cells #[.int .i32 0, .int .i32 0] 98)) := ((Fr.refl _ _).alloc _).alloc _
  have hA := (Blk.new w #[.int .i32 px, .int .i32 py] 98).alloc (.cells #[.int .i32 0, .int .i32 0] 98)
  have hR := Blk.new (w.alloc (.cells #[.int .i32 px, .int .i32 py] 98)) #[.int .i32 0, .int .i32 0] 98
  have c0 := Blk.at (h.grow F0) 0 (v := .pointer (some ⟨bO, 0, none⟩)) rfl
  have HQ := Lib.hid (And.intro hi (And.intro hh (And.intro hlen (And.intro F0 hO.low))))
  have HH := Lib.hid (And.intro (h.grow F0) (And.intro (hO.grow F0) (And.intro (hN.grow F0) (And.intro hA hR))))
  clear h hO hN hi hh hlen F0 hA hR
  go_enter Tryd.func93, Tryd.ntmps93
  go_wp2_with fail
  (with_reducible refine (there_yes _ k bO bN bP HH.out.1).mono ?_)
  rintro e w1 ⟨rfl, rfl⟩
  go_wp2_with fail
  obtain ⟨h, hO, hN, hA, hR⟩ := HH.out
  obtain ⟨hi, hh, hlen, F0, hlo⟩ := HQ.out
  clear HH HQ c0
  rw [show (w.alloc (.cells #[.int .i32 px, .int .i32 py] 98)).heap.size = w.heap.size + 1 by simp] at hR
  obtain ⟨w1, hw1⟩ : ∃ w1, (w.alloc (.cells #[.int .i32 px, .int .i32 py] 98)).alloc (.cells #[.int .i32 0, .int .i32 0] 98) = w1 := ⟨_, rfl⟩
  have g0 : w.heap.size ≤ w.heap.size + 1 := by omega
  have g00 : w.heap.size ≤ w.heap.size := Nat.le_refl _
  rw [hw1] at h hO hN hA hR F0 ⊢
  generalize w.heap.size + 1 = a1 at hR g0 ⊢
  obtain ⟨a0, ha0⟩ : ∃ a0, a0 = w.heap.size := ⟨_, rfl⟩
  rw [← ha0] at hA ⊢
  have HQ := Lib.hid (And.intro hi (And.intro hh (And.intro hlen (And.intro F0 (And.intro hlo g0)))))
  have HH := Lib.hid (And.intro h (And.intro hO (And.intro hN (And.intro hA hR))))
  clear h hO hN hA hR hi hh hlen F0 hlo g0 g00 hw1 ha0
  (with_reducible refine (getO_no w1 bO v Os rO id HH.out.2.1 HQ.out.1 HQ.out.2.1).mono ?_)
  rintro e w2 ⟨rfl, f2⟩
  have HF2 := Lib.hid f2
  clear f2
  go_wp2_with fail
  (with_reducible refine (room_any w2 k bO bN bP v Os rO (HH.out.1.grow HF2.out) (HH.out.2.1.grow HF2.out)).mono ?_)
  rintro e w3 ⟨rfl, f3⟩
  have hroom : decide ((Os.length : Int) < rO) = true := decide_eq_true HQ.out.2.2.1
  rw [hroom]
  have hf := HF2.out.trans f3 (by simp)
  have hA := hf.blk HH.out.2.2.2.1 (by simp)
  have hA0 := hA.at 0 (v := .int .i32 px) rfl
  have hA1 := hA.at 1 (v := .int .i32 py) rfl
  have HF := Lib.hid hf
  clear hf f3 HF2 hroom hA
  go_wp2_with fail
  (with_reducible refine (put_any' w3 k bO bN bP v u Os Fs rO rN id num t px py 0 none 0 0 (HH.out.1.grow HF.out) (HH.out.2.1.grow HF.out) (HH.out.2.2.1.grow HF.out) HQ.out.1 HQ.out.2.1 HQ.out.2.2.1).mono ?_)
  rintro e w4 ⟨x, bB, vB, ws, v', rfl, hX, hB, hT, hv, n1, n2, n3, f4⟩
  have hn : a1 ∉ bO :: v.ownBlock.toList := fun hs => Nat.lt_irrefl _ (Nat.lt_of_lt_of_le (HQ.out.2.2.2.2.1 _ hs) HQ.out.2.2.2.2.2)
  have hR := f4.blk (HF.out.blk HH.out.2.2.2.2 (by simp)) hn
  have hR0 := hR.at 0 (v := .int .i32 0) rfl
  have hR1 := hR.at 1 (v := .int .i32 0) rfl
  have hF0 := hR.free 0
  have hF1 := hR.free 1
  have HR := Lib.hid (And.intro hX (And.intro hB (And.intro hT (And.intro hv (And.intro n1 (And.intro n2 (And.intro n3 (And.intro f4 (And.intro hn hR)))))))))
  clear hX hB hT hv n1 n2 n3 f4 hn hR hA0 hA1
  go_wp2_with fail
  clear hR0 hR1 hF0 hF1
  obtain ⟨hX, hB, hT, hv, n1, n2, n3, f4, hn, hR⟩ := HR.out
  have hlt : a1 < w3.heap.size := (HF.out.blk HH.out.2.2.2.2 (by simp)).lt
  have FS : Fr [a1] w4 ((w4.setCell ⟨a1, 0, none⟩ (.int .i32 0)).setCell ⟨a1, 1, none⟩ (.int .i32 0)) := ((Fr.refl [a1] w4).setCell _ _ (.inl (by simp))).setCell _ _ (.inl (by simp))
  have hR5 : Blk ((w4.setCell ⟨a1, 0, none⟩ (.int .i32 0)).setCell ⟨a1, 1, none⟩ (.int .i32 0)) a1 #[.int .i32 0, .int .i32 0] 98 := by simpa using (hR.set 0 (.int .i32 0)).set 1 (.int .i32 0)
  obtain ⟨w5, hw5⟩ : ∃ w5, (w4.setCell ⟨a1, 0, none⟩ (.int .i32 0)).setCell ⟨a1, 1, none⟩ (.int .i32 0) = w5 := ⟨_, rfl⟩
  rw [hw5] at FS hR5 ⊢
  have e0 := hR5.at 0 (v := .int .i32 0) rfl
  have e1 := hR5.at 1 (v := .int .i32 0) rfl
  have f0 := HQ.out.2.2.2.1.trans HF.out (by simp)
  refine bodyPost_ret (v := .tuple #[.agg #[.int .i32 0, .int .i32 0], .bool false, .int .i64 0]) (by simp [results, Tryd.results93, go_sem, e0, e1]) rfl
    ⟨x, bB, vB, ws, v', rfl, FS.blk hX (by simp; omega), hB.fr FS (by simp; omega) (fun g hg => by have := n3 g hg; simp; omega), hT.fr FS (fun h => hn (by simp at h; simp [h])) (fun g hg hs => ?_), ?_, Nat.le_trans f0.size n1, Nat.le_trans f0.size n2, fun g hg => Nat.le_trans f0.size (n3 g hg), ?_⟩
  · simp at hs
    subst hs
    rcases hv with h | ⟨g', h, hge⟩
    · exact hn (List.mem_cons_of_mem _ (by rw [← h, hg]; simp))
    · rw [hg] at h; cases h; omega
  · rcases hv with h | ⟨g, h, hge⟩
    · exact .inl h
    · exact .inr ⟨g, h, Nat.le_trans f0.size hge⟩
  · exact ((f0.mono (T := bO :: v.ownBlock.toList) (by simp)).trans f4 (fun s hs => .inl hs)).trans FS (fun s hs => .inr (by simp at hs; subst hs; exact HQ.out.2.2.2.2.2))
end Go.Proofs.YtgoolkgjcmdilaaDoor
end
section
namespace Go.Proofs.YtgoolkgjcmdilaaDoor
open Go.RowKit
set_option linter.unusedVariables false
set_option linter.unusedSimpArgs false
attribute [local go_sem] Oper.semAt_some
theorem neqSp (w : World) : (binOp .neq 102 (.float .f64 4599301119452119040) (.float .f64 4599301119452119040)).run Tryd.prog w = .ok (.bool false) w := by kernel_rfl
attribute [local go_sem high] neqSp
theorem u4 : U32 4 := by unfold U32; omega
theorem u9 : U32 9 := by unfold U32; omega
theorem at4 (x : Nat) : (insAt ([] : List (Int × Nat)) 4 x)[rank (insAt ([] : List (Int × Nat)) 4 x) 4]? = some (4, x) := rfl
theorem at9 (x : Int) : (insAt ([] : List (Int × Int)) 9 x)[rank (insAt ([] : List (Int × Int)) 9 x) 9]? = some (9, x) := rfl
theorem newK11 (w : World) : Calls Tryd.prog 50 #[.int .i64 1, .int .i64 1] w (NewKPost w 1 1) := newK_ok w 1 1 (by decide) (by decide) (by decide) (by decide)
set_option maxRecDepth 100000 in
theorem works_any (w : World) (hT : DeB w) : Calls Tryd.prog 41 #[] w fun e w' => e = .returned (.bool true) ∧ Fr [] w w' := by
  have HT := Lib.hid hT
  clear hT
  go_enter Tryd.func41, Tryd.ntmps41
  go_wp2_with fail
  (with_reducible refine (newK11 _).mono ?_)
  rintro e w1 ⟨k, bO, bN, bP, vO, vN, vP, ws, rfl, hK, hO, hN, hB, q1, q2, q3, q4, q5, q6, q7, f1⟩
  have H1 := Lib.hid (And.intro hK (And.intro hO (And.intro hN hB)))
  have HL := Lib.hid (And.intro q1 (And.intro q2 (And.intro q3 (And.intro q4 (And.intro q5 (And.intro q6 (And.intro q7 f1)))))))
  clear hK hO hN hB q1 q2 q3 q4 q5 q6 q7 f1
  go_wp2_with fail
  (with_reducible refine (speed_one _).mono ?_)
  rintro e w2 ⟨rfl, f2⟩
  have H2 := Lib.hid (And.intro (H1.out.1.grow f2) (And.intro (H1.out.2.1.grow f2) (And.intro (H1.out.2.2.1.grow f2) (H1.out.2.2.2.grow f2))))
  have HF2 := Lib.hid (HL.out.2.2.2.2.2.2.2.trans f2 (by simp))
  clear f2 H1
  go_wp2_with fail
  (with_reducible refine (move_new w2 k bO bN bP vO vN [] [] ((1 : Nat) : Int) 1 4 1 0 2 0 H2.out.1 H2.out.2.1 H2.out.2.2.1 u4 rfl (by decide)).mono ?_)
  rintro e w3 ⟨x, bB, vB, ws1, vO', rfl, hX, hBB, hO3, hvO, n1, n2, n3, f3⟩
  obtain ⟨hK, hO, hN, hB⟩ := H2.out
  have hK3 := hK.fr f3 (by
    intro hs
    rcases List.mem_cons.1 hs with h | h
    · exact Blk.ne hK hO.hd (by decide) h
    · exact own_notin hO.own hK (by decide) h)
  have hN3 := hN.fr f3 (by
    intro hs
    rcases List.mem_cons.1 hs with h | h
    · exact hN.hd.ne hO.hd (by decide) h
    · exact own_notin hO.own hN.hd (by decide) h) (by
    intro g hg hs
    rcases List.mem_cons.1 hs with h | h
    · subst h; exact own_notin hN.own hO.hd (by decide) (by simp [hg])
    · exact own_ne3 hN.own hO.own (by decide) hg h)
  have hB3 := hB.fr f3 (by
    intro hs
    rcases List.mem_cons.1 hs with h | h
    · exact hB.hd.ne hO.hd (by decide) h
    · exact own_notin hO.own hB.hd (by decide) h) (by
    intro g hg hs
    rcases List.mem_cons.1 hs with h | h
    · subst h; exact own_notin hB.own hO.hd (by decide) (by simp [hg])
    · exact own_ne3 hB.own hO.own (by decide) hg h)
  have hPl : ∀ g, vP.ownBlock = some g → g < w2.heap.size := fun g hg => own_lt hB.own hg
  have hf3 : Fr [] w w3 := HF2.out.trans f3 (fun s hs => .inr (by
    rcases List.mem_cons.1 hs with h | h
    · subst h; exact HL.out.1
    · exact HL.out.2.1 s (by simpa using h)))
  have F4 : Fr [] w3 (w3.alloc (.cells #[.int .i32 0, .int .i32 0] 98)) := (Fr.refl _ _).alloc _
  have H3 := Lib.hid (And.intro (hK3.grow F4) (And.intro (hN3.grow F4) (And.intro (hB3.grow F4) (And.intro (F4.blk hX (by simp)) (And.intro (hBB.grow F4) (And.intro (hO3.grow F4) (hf3.trans F4 (by simp))))))))
  have HN3 := Lib.hid (And.intro (Nat.le_trans HF2.out.size n2) (And.intro (fun g hg => n3 g hg) hPl))
  clear hK hO hN hB hX hBB hO3 hvO n1 n2 n3 f3 hK3 hN3 hB3 hPl hf3 F4 H2
  go_wp2_with fail
  have HW : ∃ w4, w3.alloc (.cells #[.int .i32 0, .int .i32 0] 98) = w4 := ⟨_, rfl⟩
  obtain ⟨w4, hw4⟩ := HW
  rw [hw4] at H3 ⊢
  generalize w3.heap.size = c9 at *
  clear hw4
  have hfree : ∀ a, FirstAt (List.replicate 1 false) 0 false a → a = 0 := by
    intro a ha
    rcases ha with ⟨i, rfl, -, h2, -, -⟩ | ⟨rfl, h2⟩
    · simp at h2; omega
    · exact absurd rfl (h2 0 (by omega) (by simp))
  have HFR := Lib.hid hfree
  clear hfree
  (with_reducible refine (addF_new w4 k bO bN bP vN vP [] ((1 : Nat) : Int) 9 (List.replicate 1 false) ws H3.out.1 H3.out.2.1 H3.out.2.2.1 (deB_fr2 HT.out H3.out.2.2.2.2.2.2) u9 rfl (fun a ha => by rw [HFR.out a ha]; decide) (by decide)).mono ?_)
  rintro e w5 ⟨a, vN', ws5, rfl, ha, hB5, hN5, hvN, f5⟩
  obtain rfl := HFR.out a ha
  obtain ⟨hK, hN, hB, hX, hBB, hO, f04⟩ := H3.out
  have n0 : ∀ s, s ∈ bN :: (vN.ownBlock.toList ++ vP.ownBlock.toList) → s = bN ∨ s ∈ vN.ownBlock.toList ∨ s ∈ vP.ownBlock.toList := by
    intro s hs
    rcases List.mem_cons.1 hs with h | h
    · exact .inl h
    · exact .inr (List.mem_append.1 h)
  have hK5 := hK.fr f5 (by
    intro hs
    rcases n0 _ hs with h | h | h
    · exact Blk.ne hK hN.hd (by decide) h
    · exact own_notin hN.own hK (by decide) h
    · exact own_notin hB.own hK (by decide) h)
  have hX5 : ObAt w5 x bB 4 1 0 2 0 0 := f5.blk hX (by
    intro hs
    rcases n0 _ hs with h | h | h
    · exact Blk.ne hX hN.hd (by decide) h
    · exact own_notin hN.own hX (by decide) h
    · exact own_notin hB.own hX (by decide) h)
  have hO5 := hO.fr f5 (by
    intro hs
    rcases n0 _ hs with h | h | h
    · exact hO.hd.ne hN.hd (by decide) h
    · exact own_notin hN.own hO.hd (by decide) h
    · exact own_notin hB.own hO.hd (by decide) h) (by
    intro g hg hs
    rcases n0 _ hs with h | h | h
    · subst h; exact own_notin hO.own hN.hd (by decide) (by simp [hg])
    · exact own_ne3 hO.own hN.own (by decide) hg h
    · exact own_ne3 hO.own hB.own (by decide) hg h)
  have hBB5 := hBB.fr f5 (by
    intro hs
    rcases n0 _ hs with h | h | h
    · exact hBB.hd.ne hN.hd (by decide) h
    · exact own_notin hN.own hBB.hd (by decide) h
    · exact own_notin hB.own hBB.hd (by decide) h) (by
    intro g hg hs
    rcases n0 _ hs with h | h | h
    · subst h; exact own_notin hBB.own hN.hd (by decide) (by simp [hg])
    · exact own_ne3 hBB.own hN.own (by decide) hg h
    · have h1 := HN3.out.2.1 g hg
      have h2 := HN3.out.2.2 g (by simpa using h)
      omega)
  have f05 : Fr [] w w5 := f04.trans f5 (fun s hs => .inr (by
    rcases n0 _ hs with h | h | h
    · subst h; exact HL.out.2.2.1
    · exact HL.out.2.2.2.1 s (by simpa using h)
    · exact HL.out.2.2.2.2.2.1 s (by simpa using h)))
  have H5 := Lib.hid (And.intro hK5 (And.intro hO5 (And.intro hN5 (And.intro hX5 (And.intro hBB5 f05)))))
  clear hK hN hB hX hBB hO f04 n0 hK5 hX5 hO5 hBB5 hN5 hB5 hvN f5 f05 ha H3 HFR
  go_wp2_with fail
  (with_reducible refine (enter_yes w5 k bO bN bP vO' vN' _ _ _ _ 4 9 x 0 bB vB (List.replicate 1 false) ws1 4 1 0 2 0 0 H5.out.1 H5.out.2.1 H5.out.2.2.1 u4 u9 (at4 x) (at9 0) H5.out.2.2.2.1 H5.out.2.2.2.2.1).mono ?_)
  rintro e w6 ⟨rfl, ⟨ws6, hBB6⟩, f6⟩
  rw [show addA (List.replicate 1 false) 0 = true by decide]
  obtain ⟨hK, hO, hN, hX, hBB, f05⟩ := H5.out
  have hK6 := hK.fr f6 (own_notin hBB.own hK (by decide))
  have hX6 : ObAt w6 x bB 4 1 0 2 0 0 := f6.blk hX (own_notin hBB.own hX (by decide))
  have hO6 := hO.fr f6 (own_notin hBB.own hO.hd (by decide)) (fun g hg => own_ne3 hO.own hBB.own (by decide) hg)
  have hN6 := hN.fr f6 (own_notin hBB.own hN.hd (by decide)) (fun g hg => own_ne3 hN.own hBB.own (by decide) hg)
  have f06 : Fr [] w w6 := f05.trans f6 (fun s hs => .inr (Nat.le_trans HF2.out.size (HN3.out.2.1 s (by simpa using hs))))
  have H6 := Lib.hid (And.intro hK6 (And.intro hO6 (And.intro hN6 (And.intro hX6 (And.intro hBB6 f06)))))
  clear hK hO hN hX hBB f05 hK6 hX6 hO6 hN6 f06 hBB6 f6 H5
  go_wp2_with fail
  (with_reducible refine (in_yes w6 k bO bN bP vO' vN' _ _ _ _ 4 9 x 0 bB vB _ ws6 4 1 0 2 0 0 H6.out.1 H6.out.2.1 H6.out.2.2.1 u4 u9 (at4 x) (at9 0) H6.out.2.2.2.1 H6.out.2.2.2.2.1).mono ?_)
  rintro e w7 ⟨rfl, f7⟩
  rw [show hasB (addB (List.replicate 1 false) 0) 0 = true by decide]
  have hK7 := H6.out.1.grow f7
  have hO7 := H6.out.2.1.grow f7
  have f07 := H6.out.2.2.2.2.2.trans f7 (by simp)
  have H7 := Lib.hid (And.intro hK7 (And.intro hO7 f07))
  clear hK7 hO7 f07 f7 H6
  go_wp2_with fail
  (with_reducible refine (lenK_any w7 k bO bN bP vO' _ _ H7.out.1 H7.out.2.1).mono ?_)
  rintro e w8 ⟨rfl, rfl⟩
  rw [show ((insAt ([] : List (Int × Nat)) 4 x).length : Int) = 1 from rfl]
  go_wp2_with fail
  refine bodyPost_ret (v := .bool true) (by simp [results, Tryd.results41, go_sem]) rfl ⟨rfl, H7.out.2.2⟩
end Go.Proofs.YtgoolkgjcmdilaaDoor
end
section
namespace Hed
/-- Nearer to the first axis than to the diagonal. -/
def flatB (a b : Nat) : Bool := decide (b < a) && decide (2 * (b * b) < (a - b) * (a - b))
end Hed
namespace Go.Proofs.YtgoolkgjcmdilaaDoor
open Go.RowKit Hed
set_option linter.unusedVariables false
set_option linter.unusedSimpArgs false
namespace Mul
theorem maskN (a : Nat) (ha : a < 18446744073709551616) : bits .and .u64 (a : Int) 4294967295 = ((a % 4294967296 : Nat) : Int) := by
  have h := bits_and_u64_nat a 4294967295 ha (by omega)
  have e : a &&& 4294967295 = a % 4294967296 := Nat.and_two_pow_sub_one_eq_mod a 32
  rw [e] at h
  exact h
theorem divN (a : Nat) : (a : Int) / 4294967296 = ((a / 4294967296 : Nat) : Int) := by omega
theorem mulN (a b : Nat) : (a : Int) * (b : Int) = ((a * b : Nat) : Int) := (Int.natCast_mul a b).symm
theorem addN (a b : Nat) : (a : Int) + (b : Int) = ((a + b : Nat) : Int) := (Int.natCast_add a b).symm
theorem wrapN (a : Nat) (ha : a < 18446744073709551616) : IntKind.u64.wrap (a : Int) = (a : Int) := by rw [IntKind.wrap_u64]; omega
theorem wrapM (a : Nat) : IntKind.u64.wrap (a : Int) = ((a % 18446744073709551616 : Nat) : Int) := by rw [IntKind.wrap_u64]; omega
end Mul
set_option maxHeartbeats 1000000 in
theorem mul64_any (w : World) (x y : Nat) (hx : x < 18446744073709551616) (hy : y < 18446744073709551616) :
    Calls Tryd.prog 141 #[.int .u64 x, .int .u64 y] w fun e w' => e = .returned (.tuple #[.int .u64 ((x * y / 18446744073709551616 : Nat) : Int), .int .u64 ((x * y % 18446744073709551616 : Nat) : Int)]) ∧ w = w' := by
  obtain ⟨bd, bt, bw, hhi⟩ := Lib.mul64_hi x y hx hy
  have ba := Lib.half_mul_le (a := x / 4294967296) (b := y / 4294967296) (by omega) (by omega)
  have bb := Lib.half_mul_le (a := x / 4294967296) (b := y % 4294967296) (by omega) (by omega)
  have bc := Lib.half_mul_le (a := x % 4294967296) (b := y / 4294967296) (by omega) (by omega)
  have ba' : x / 4294967296 * (y / 4294967296) < 18446744073709551616 := by omega
  have bb' : x / 4294967296 * (y % 4294967296) < 18446744073709551616 := by omega
  have bc' : x % 4294967296 * (y / 4294967296) < 18446744073709551616 := by omega
  have bh1 : x / 4294967296 * (y / 4294967296) + (x / 4294967296 * (y % 4294967296) + x % 4294967296 * (y % 4294967296) / 4294967296) / 4294967296 < 18446744073709551616 := by omega
  have bh : x / 4294967296 * (y / 4294967296) + (x / 4294967296 * (y % 4294967296) + x % 4294967296 * (y % 4294967296) / 4294967296) / 4294967296 + ((x / 4294967296 * (y % 4294967296) + x % 4294967296 * (y % 4294967296) / 4294967296) % 4294967296 + x % 4294967296 * (y / 4294967296)) / 4294967296 < 18446744073709551616 := by omega
  go_enter Tryd.func141, Tryd.ntmps141
  go_wp2
  simp only [Mul.maskN x hx, Mul.maskN y hy, Mul.divN, Mul.mulN, Mul.addN, Mul.wrapN _ bd, Mul.wrapN _ bb', Mul.wrapN _ bt, Mul.maskN _ bt, Mul.wrapN _ bc', Mul.wrapN _ bw, Mul.wrapN _ ba', Mul.wrapN _ bh1, Mul.wrapN _ bh, Mul.wrapM (x * y)]
  rw [hhi]
  go_ret2
  exact ⟨rfl, rfl⟩
theorem sq_small (b : Nat) (hb : b ≤ 4294967295) : b * b ≤ 18446744065119617025 := Nat.mul_le_mul hb hb
/-- A square of what is below 2^32. -/
theorem mul_small (w : World) (b : Nat) (hb : b ≤ 4294967295) (s : Nat) (hs : s = b * b) :
    Calls Tryd.prog 141 #[.int .u64 b, .int .u64 b] w fun e w' => e = .returned (.tuple #[.int .u64 0, .int .u64 s]) ∧ w = w' := by
  refine (mul64_any w b b (by omega) (by omega)).mono fun e w' ⟨h1, h2⟩ => ⟨?_, h2⟩
  have := sq_small b hb
  rw [h1, hs, Nat.div_eq_of_lt (by omega), Nat.mod_eq_of_lt (by omega)]
  rfl
set_option maxRecDepth 100000 in
theorem flat_gt (w : World) (a b : Nat) (h : ¬ a ≤ b) (ha : a ≤ 4294967295) : Calls Tryd.prog 104 #[.int .u64 a, .int .u64 b] w fun e w' => e = .returned (.bool (flatB a b)) ∧ w = w' := by
  have hm1 := Lib.hid (fun w => mul_small w b (by omega) (b * b) rfl)
  have hm2 := Lib.hid (fun w => mul_small w (a - b) (by omega) ((a - b) * (a - b)) rfl)
  have q1 := sq_small b (by omega)
  have q2 := sq_small (a - b) (by omega)
  have hf : flatB a b = decide (2 * (b * b) < (a - b) * (a - b)) := by unfold flatB; rw [decide_eq_true (by omega : b < a), Bool.true_and]
  rw [hf]
  have hsub : ((a : Int) - (b : Int)) = ((a - b : Nat) : Int) := by omega
  clear hf
  generalize b * b = s at *
  generalize hd : a - b = d at *
  generalize d * d = t at *
  have HS := Lib.hid hsub
  clear hsub hd
  by_cases hs : s < 9223372036854775808
  · have e1 : bits .or .u64 0 ((s : Int) / 9223372036854775808) = 0 := by
      rw [show (s : Int) / 9223372036854775808 = 0 by omega]
      decide
    have HE := Lib.hid e1
    clear e1
    go_enter Tryd.func104, Tryd.ntmps104
    go_wp2_with fail
    (with_reducible refine (hm1.out _).mono ?_)
    rintro e w1 ⟨rfl, rfl⟩
    go_wp2_with fail
    rw [HE.out, HS.out]
    (with_reducible refine (hm2.out _).mono ?_)
    rintro e w1 ⟨rfl, rfl⟩
    go_wp2_with fail
    go_ret
    exact ⟨ret_bool (by rw [decide_eq_decide]; omega), rfl⟩
  · have e1 : bits .or .u64 0 ((s : Int) / 9223372036854775808) = 1 := by
      rw [show (s : Int) / 9223372036854775808 = 1 by omega]
      decide
    have e2 : decide (2 * s < t) = false := decide_eq_false (by omega)
    rw [e2]
    have HE := Lib.hid e1
    clear e1 e2
    go_enter Tryd.func104, Tryd.ntmps104
    go_wp2_with fail
    (with_reducible refine (hm1.out _).mono ?_)
    rintro e w1 ⟨rfl, rfl⟩
    go_wp2_with fail
    rw [HE.out, HS.out]
    (with_reducible refine (hm2.out _).mono ?_)
    rintro e w1 ⟨rfl, rfl⟩
    go_wp2_with fail
    go_ret
    exact ⟨rfl, rfl⟩
theorem rsize_any (w : World) (a : Int) (h1 : -4294967295 ≤ a) (h2 : a ≤ 4294967295) : Calls Tryd.prog 99 #[.int .i64 a] w fun e w' => e = .returned (.int .u64 a.natAbs) ∧ w = w' := by
  go_enter Tryd.func99, Tryd.ntmps99
  go_wp2
  all_goals
    go_ret
    exact ⟨congrArg (fun z => Ending.returned (.int .u64 z)) (by omega), rfl⟩
end Go.Proofs.YtgoolkgjcmdilaaDoor
namespace Go.Proofs.YtgoolkgjcmdilaaDoor
open Go.RowKit Hed
set_option linter.unusedVariables false
set_option linter.unusedSimpArgs false
attribute [local go_sem] Oper.semAt_some
theorem dAbs_le {a b : Int} (ha : I32 a) (hb : I32 b) : dAbs a b ≤ 4294967295 := by
  obtain ⟨a1, a2⟩ := ha
  obtain ⟨b1, b2⟩ := hb
  unfold dAbs
  omega
theorem size_q (w : World) (a b : Int) (ha : I32 a) (hb : I32 b) : Calls Tryd.prog 102 #[.int .i32 a, .int .i32 b] w fun e w' => e = .returned (.int .u64 (dAbs a b)) ∧ w' = w :=
  (size_any w a b ha hb).mono fun _ _ ⟨h1, h2⟩ => ⟨h1, h2.symm⟩
theorem rsize_pt (w : World) (p q : Int) (hp : I32 p) (hq : I32 q) : Calls Tryd.prog 99 #[.int .i64 (q - p)] w fun e w' => e = .returned (.int .u64 (dAbs p q)) ∧ w = w' := by
  obtain ⟨a1, a2⟩ := hp
  obtain ⟨b1, b2⟩ := hq
  rw [show dAbs p q = (q - p).natAbs by unfold dAbs; omega]
  exact rsize_any w (q - p) (by omega) (by omega)
end Go.Proofs.YtgoolkgjcmdilaaDoor
namespace Go.Proofs.YtgoolkgjcmdilaaDoor
open Go.RowKit Hed
set_option linter.unusedVariables false
set_option linter.unusedSimpArgs false
attribute [local go_sem] Oper.semAt_some
end Go.Proofs.YtgoolkgjcmdilaaDoor
end
