/-
  Cover: what it tells, of any arguments; first over it.
-/
import Derived.Test.YthagbhiblncpkaaCellS
namespace Go.Proofs.Ythagbhiblncpkaa
open Go.RowKit Go.Shelf
set_option linter.unusedVariables false
attribute [local go_sem] Oper.semAt_some

theorem cover_no (m l bs bb : Nat) (a b c d s : Int) (W : World) (hh : BHeld bs bb a b c d s W) (hn : (fits s && boxOk a b c d) = false) :
    CallsIn Fence.wide m Try.prog 41 #[.func (.yield l) #[] #[], .pointer (some ⟨bs, 0, none⟩), .pointer (some ⟨bb, 0, none⟩)] W fun e W' => (∃ v, e = .returned v) ∧ Fr [] W W' := by
  refine callsIn_of_wp_marks Try.func41 rfl trivial ?_ rfl
  simp only [Try.ntmps41, List.size_toArray, List.length_cons, List.length_nil, Nat.reduceAdd, Nat.reduceSub, Array.replicate_succ, Array.replicate_zero, List.push_toArray, List.append_toArray, List.nil_append, List.cons_append]
  refine wpIn_wide.2 ?_
  have hf0 : Fr [] W (W.alloc (.cells #[.func (.yield l) #[] #[]] 56)) := (Fr.refl [] W).alloc _
  have hh1 := hh.fr hf0
  have s0 := hh1.s.at 0 (v := .int .i64 s) rfl
  have b0 := hh1.b.at 0 (v := .int .i32 a) rfl
  have b1 := hh1.b.at 1 (v := .int .i32 b) rfl
  have b2 := hh1.b.at 2 (v := .int .i32 c) rfl
  have b3 := hh1.b.at 3 (v := .int .i32 d) rfl
  cases h1 : fits s with
  | false =>
    have H1 := Lib.hid h1
    have HF := Lib.hid hf0
    clear h1 hn hf0 hh1 hh
    go_wp2_with fail
    (with_reducible refine (isSize_any _ _).mono ?_)
    rintro e w1 ⟨rfl, rfl⟩
    rw [H1.out]
    go_wp2
    exact ⟨_, results_none rfl _ _ _, ⟨_, rfl⟩, HF.out⟩
  | true =>
    have h2 : boxOk a b c d = false := by simpa [h1] using hn
    have H1 := Lib.hid h1
    have H2 := Lib.hid h2
    have HF := Lib.hid hf0
    clear h1 h2 hn hf0 hh1 hh
    go_wp2_with fail
    (with_reducible refine (isSize_any _ _).mono ?_)
    rintro e w1 ⟨rfl, rfl⟩
    rw [H1.out]
    go_wp2_with fail
    (with_reducible refine (isBox_any _ _ _ _ _).mono ?_)
    rintro e w1 ⟨rfl, fr1⟩
    rw [H2.out]
    have HF2 := Lib.hid (HF.out.trans fr1 (by simp))
    clear fr1
    go_wp2
    exact ⟨_, results_none rfl _ _ _, ⟨_, rfl⟩, HF2.out⟩

/-- What a consumer must have laid: the boxes, and its own list away. -/
def CovPre (bs bb B D : Nat) (a b c d s : Int) (W : World) : Prop := BHeld bs bb a b c d s W ∧ D ≤ W.heap.size ∧ Away B [] W

theorem cover_tells (m bs bb B D : Nat) (a b c d s : Int) (hm : 3 ≤ m) :
    Tells Fence.wide m Try.prog 41 #[.pointer (some ⟨bs, 0, none⟩), .pointer (some ⟨bb, 0, none⟩)] cellArg [] (KpC tsC D B)
      (fun xs => xs = covSeq a b c d s) (fun pre => pre <+: covSeq a b c d s) (covSeq a b c d s).length (CovPre bs bb B D a b c d s) (BHeld bs bb a b c d s) := by
  intro l J Jx W hW hJ hJx hY h0
  cases hok : (fits s && boxOk a b c d) with
  | false =>
    have e : covSeq a b c d s = [] := by unfold covSeq; rw [if_neg (by rintro ⟨h1, h2⟩; simp [h1, h2] at hok)]
    refine (cover_no m l bs bb a b c d s W hW.1 hok).mono ?_
    rintro e' W' ⟨hv, hf⟩
    exact ⟨hv, hW.1.fr hf, .inl ⟨[], e.symm, hJ.fr h0 hf⟩⟩
  | true =>
    rw [Bool.and_eq_true] at hok
    exact (cover_in m l bs bb B D a b c d s hm hok.1 hok.2 J Jx W hW.1 hW.2.1 hW.2.2 hJ hJx hY h0).mono fun e' W' ⟨hv, hh, hr⟩ => ⟨hv, hh, hr.imp (fun h => ⟨_, rfl, h⟩) (fun h => h)⟩

/-- Cover's own call. -/
theorem cover_any (w : World) (a b c d s : Int) : Calls Try.prog 22 #[.agg #[.int .i32 a, .int .i32 b, .int .i32 c, .int .i32 d], .int .i64 s] w fun e w' =>
    e = .returned (.func (.func 41) #[] #[.pointer (some ⟨w.heap.size + 1, 0, none⟩), .pointer (some ⟨w.heap.size, 0, none⟩)]) ∧ BHeld (w.heap.size + 1) w.heap.size a b c d s w' ∧ Fr [] w w' := by
  have h0 := (Blk.new w #[.int .i32 a, .int .i32 b, .int .i32 c, .int .i32 d] 39).alloc (.cells #[.int .i64 s] 2)
  have h1 := Blk.new_at (w := w.alloc (.cells #[.int .i32 a, .int .i32 b, .int .i32 c, .int .i32 d] 39)) (k := w.heap.size + 1) (by simp) #[.int .i64 s] 2
  have HH := Lib.hid (And.intro (BHeld.mk h1 h0) (((Fr.refl [] w).alloc (.cells #[.int .i32 a, .int .i32 b, .int .i32 c, .int .i32 d] 39)).alloc (.cells #[.int .i64 s] 2)))
  clear h0 h1
  go_enter Try.func22, Try.ntmps22
  go_wp2
  go_ret
  exact ⟨rfl, HH.out.1, HH.out.2⟩
end Go.Proofs.Ythagbhiblncpkaa
