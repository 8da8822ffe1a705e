/-
  Script: errors.As at what Parse answers; faulted.
-/
import Derived.Test.YtbpgpjibljgiiaaDoorLnsA
import Derived.Test.YtbpgpjibljgiiaaDoorAsF
namespace Go.Proofs.YtbpgpjibljgiiaaDoor
open Go.RowKit
set_option linter.unusedVariables false
set_option linter.unusedSimpArgs false
attribute [local go_sem] Oper.semAt_some
attribute [local go_sem ↓] loadVar29 storeVar29
attribute [local go_sem] run_loadScr run_storeScr
namespace Sc
def errTy : Value := .iface 121 (.agg #[.pointer (some ⟨7, 31, none⟩)])
/-- An error that is none, or a fault. -/
def ErrV (W : World) (ev : Value) : Option Flt3 → Prop
  | none => ev = .nilIface
  | some f => ∃ fb, ev = .iface 34 (.pointer (some ⟨fb, 0, none⟩)) ∧ Blk W fb #[.int .i64 f.1, .int .i64 f.2.1, .int .i64 f.2.2] 39
def errOf : Except Flt3 (List Int × List St) → Option Flt3
  | .error f => some f
  | .ok _ => none
theorem ParQ.err {n0 : Nat} {w w' : World} {R : Except Flt3 (List Int × List St)} {e : Ending} (h : ParQ n0 w R e w') : ∃ cs ev, e = .returned (.tuple #[.agg cs, ev]) ∧ scrOk cs = true ∧ ErrV w' ev (errOf R) ∧ Fr [] w w' := by
  match R, h with
  | .error f, ⟨fb, h1, h2, _, h4⟩ => exact ⟨_, _, h1, scrOk_zero, ⟨fb, rfl, h2⟩, h4⟩
  | .ok (cfg, L), ⟨v, C, h1, h2, _, h4, h5⟩ =>
    obtain ⟨p, c, rfl⟩ := own_form h4.own
    exact ⟨_, _, h1, scrC_ok h2 rfl, rfl, h5⟩
theorem ErrV.fr {W W' : World} {ev : Value} {f : Option Flt3} {S : List Nat} (h : ErrV W ev f) (g : Fr S W W') (hS : ∀ x ∈ S, ∀ {c : Array Value}, ¬ Blk W x c 39) : ErrV W' ev f := by
  match f, h with
  | none, h => exact h
  | some f, ⟨fb, h1, h2⟩ => exact ⟨fb, h1, g.blk h2 (fun hm => hS fb hm h2)⟩
theorem as_blk (w : World) (fb tb : Nat) (old : Value) (hg : w.cell? ⟨0, 0, none⟩ = some errTy) (ht : Blk w tb #[old] 34) :
    Calls Tryd.prog 9 #[.iface 34 (.pointer (some ⟨fb, 0, none⟩)), .iface 36 (.pointer (some ⟨tb, 0, none⟩))] w fun ev w' => ev = .returned (.bool true) ∧ Blk w' tb #[.pointer (some ⟨fb, 0, none⟩)] 34 ∧ Fr [tb] w w' := by
  refine (as_hit ⟨fb, 0, none⟩ ⟨tb, 0, none⟩ old w hg (ht.at 0 rfl) (ht.free 0)).mono ?_
  rintro e w' ⟨rfl, rfl⟩
  refine ⟨rfl, ?_, ?_⟩
  · exact ((((ht.alloc _).alloc _).alloc _).alloc _).set 0 _
  · exact (((((Fr.refl [tb] w).alloc _).alloc _).alloc _).alloc _).setCell _ _ (.inl (by simp))
theorem new_can (w : World) : can12 (w.alloc (.cells #[.int .i64 0, .int .i64 0, .int .i64 0, .int .i64 0, .int .i64 0, .int .i64 0, .int .i64 0, .int .i64 0, .int .i64 0, .int .i64 0, .int .i64 0, .slice none 0 0] 29)) w.heap.size = true := (Blk.new w #[.int .i64 0, .int .i64 0, .int .i64 0, .int .i64 0, .int .i64 0, .int .i64 0, .int .i64 0, .int .i64 0, .int .i64 0, .int .i64 0, .int .i64 0, .slice none 0 0] 29).can12 rfl
theorem new_lay (w : World) (cs : Array Value) : Fr [] w (layA (w.alloc (.cells #[.int .i64 0, .int .i64 0, .int .i64 0, .int .i64 0, .int .i64 0, .int .i64 0, .int .i64 0, .int .i64 0, .int .i64 0, .int .i64 0, .int .i64 0, .slice none 0 0] 29)) w.heap.size cs) := ((Fr.refl [] w).alloc _).layA _ _ (.inr (Nat.le_refl _))
theorem parse_faulted : parseP ⟨#[112, 97, 100, 100, 111, 99, 107, 32, 50, 10]⟩ = .error (1, 1, 281) := by rfl
set_option maxRecDepth 100000 in
set_option maxHeartbeats 4000000 in
theorem faulted_any (w : World) (m : Int) (hm : w.cell? ⟨1, 0, none⟩ = some (.int .i64 m)) (hg : w.cell? ⟨0, 0, none⟩ = some errTy) :
    Calls Tryd.prog 6 #[] w fun e w' => e = .returned (.bool true) ∧ Fr [] w w' := by
  have HP := Lib.hid (parse_any w ⟨#[112, 97, 100, 100, 111, 99, 107, 32, 50, 10]⟩ m hm)
  rw [parse_faulted] at HP
  have HG := Lib.hid (show ∀ W, Fr [] w W → W.cell? ⟨0, 0, none⟩ = some errTy from fun W f => (f.cell (World.block_lt_of_cell? w _ hg) (by simp)).trans hg)
  clear hm hg
  go_enter Tryd.func6, Tryd.ntmps6
  go_wp2_with fail
  (with_reducible refine HP.out.mono ?_)
  rintro e w1 ⟨fb, rfl, hb, -, f1⟩
  have HB := Lib.hid (And.intro hb f1)
  obtain ⟨cs, hcs⟩ : ∃ cs, cs = zeroScr := ⟨_, rfl⟩
  have zo : scrOk cs = true := by rw [hcs]; exact scrOk_zero
  rw [← hcs]
  clear hb f1 hcs
  have q1 := new_can w1
  obtain ⟨w2, hw2⟩ : ∃ w2, layA (w1.alloc (.cells #[.int .i64 0, .int .i64 0, .int .i64 0, .int .i64 0, .int .i64 0, .int .i64 0, .int .i64 0, .int .i64 0, .int .i64 0, .int .i64 0, .int .i64 0, .slice none 0 0] 29)) w1.heap.size cs = w2 := ⟨_, rfl⟩
  have f2 : Fr [] w1 w2 := by rw [← hw2]; exact new_lay w1 cs
  have HW2 := Lib.hid hw2
  have HF2 := Lib.hid f2
  clear hw2 f2
  go_upto_region 2 with fail
  rw [HW2.out]
  clear q1 zo
  obtain ⟨tb, htb⟩ : ∃ tb, tb = w2.heap.size := ⟨_, rfl⟩
  have HTB := Lib.hid (And.intro htb (Blk.new_at htb #[.pointer none] 34))
  clear htb
  go_wp2_with fail
  rw [← HTB.out.1]
  (with_reducible refine (as_blk _ fb tb _ (HG.out _ (HB.out.2.trans (HF2.out.alloc _) (by simp))) HTB.out.2).mono ?_)
  rintro e w3 ⟨rfl, ht, f3⟩
  have hb3 := f3.blk (((HF2.out.alloc (.cells #[.pointer none] 34)).blk HB.out.1 (by simp))) (by have := HB.out.1.lt; have := HF2.out.size; have := HTB.out.1; simp; omega)
  have d0 := ht.at 0 (v := .pointer (some ⟨fb, 0, none⟩)) rfl
  have c0 := hb3.at 0 (v := .int .i64 1) rfl
  have c1 := hb3.at 1 (v := .int .i64 1) rfl
  have c2 := hb3.at 2 (v := .int .i64 281) rfl
  have HF3 := Lib.hid ((HB.out.2.trans (HF2.out.alloc (.cells #[.pointer none] 34)) (by simp)).trans f3 (fun x hx => .inr (by have := HTB.out.1; have := HB.out.2.size; have := HF2.out.size; simp at hx; omega)))
  clear ht f3 hb3
  go_wp2
  go_ret
  exact ⟨rfl, HF3.out⟩
end Sc
end Go.Proofs.YtbpgpjibljgiiaaDoor
