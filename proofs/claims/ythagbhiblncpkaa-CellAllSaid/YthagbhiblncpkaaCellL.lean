/-
  First of the document, of any arguments; whether the cells of a segment are told.
-/
import Derived.Test.YthagbhiblncpkaaCellK
namespace Go.Proofs.Ythagbhiblncpkaa
open Go.RowKit Go.Shelf
set_option linter.unusedVariables false

theorem refFirst_no (w : World) (px py qx qy s : Int) (hn : lineOk px py qx qy s = false) :
    Calls Try.prog 8 #[pt px py, pt qx qy, .int .i64 s, .int .i64 401] w (ListPost w []) := by
  have hnil : ∀ w' : World, w'.ownsRow 0 33 2 (.slice none 0 0) ([] : List (Int × Int)).length (flat []) := fun w' => World.ownsRow_nil _ _ _ _
  unfold pt
  cases h1 : fits s with
  | false =>
    have H1 := Lib.hid h1
    clear h1 hn
    go_enter Try.func8, Try.ntmps8
    go_wp2_with fail
    (with_reducible refine (fits_any _ _).mono ?_)
    rintro e w1 ⟨rfl, hw1⟩
    have f1 : Fr [] w w1 := by rw [← hw1]; exact ((Fr.refl _ _).alloc _).alloc _
    have HF := Lib.hid f1
    clear hw1 f1
    rw [H1.out]
    go_wp2
    go_ret
    exact ⟨_, rfl, hnil _, by simp [Value.ownBlock], HF.out⟩
  | true =>
    cases h2 : inB px py with
    | false =>
      have H1 := Lib.hid h1
      have H2 := Lib.hid h2
      clear h1 h2 hn
      go_enter Try.func8, Try.ntmps8
      go_wp2_with fail
      (with_reducible refine (fits_any _ _).mono ?_)
      rintro e w1 ⟨rfl, hw1⟩
      have hp1 : Blk w1 w.heap.size #[.int .i32 px, .int .i32 py] 23 := by rw [← hw1]; exact (Blk.new _ _ _).alloc _
      have p0 := hp1.at 0 (v := .int .i32 px) rfl
      have p1 := hp1.at 1 (v := .int .i32 py) rfl
      have f1 : Fr [] w w1 := by rw [← hw1]; exact ((Fr.refl _ _).alloc _).alloc _
      have HF := Lib.hid f1
      clear hw1 f1 hp1
      rw [H1.out]
      go_wp2_with fail
      (with_reducible refine (refIn_any _ _ _).mono ?_)
      rintro e w2 ⟨rfl, f2⟩
      have HF2 := Lib.hid (HF.out.trans f2 (by simp))
      clear f2
      rw [H2.out]
      go_wp2
      go_ret
      exact ⟨_, rfl, hnil _, by simp [Value.ownBlock], HF2.out⟩
    | true =>
      have h3 : inB qx qy = false := by simpa [lineOk, h1, h2] using hn
      have H1 := Lib.hid h1
      have H2 := Lib.hid h2
      have H3 := Lib.hid h3
      clear h1 h2 h3 hn
      go_enter Try.func8, Try.ntmps8
      go_wp2_with fail
      (with_reducible refine (fits_any _ _).mono ?_)
      rintro e w1 ⟨rfl, hw1⟩
      have hp1 : Blk w1 w.heap.size #[.int .i32 px, .int .i32 py] 23 := by rw [← hw1]; exact (Blk.new _ _ _).alloc _
      have hq1 : Blk w1 (w.heap.size + 1) #[.int .i32 qx, .int .i32 qy] 23 := by rw [← hw1]; exact Blk.new_at (by simp) _ _
      have p0 := hp1.at 0 (v := .int .i32 px) rfl
      have p1 := hp1.at 1 (v := .int .i32 py) rfl
      have f1 : Fr [] w w1 := by rw [← hw1]; exact ((Fr.refl _ _).alloc _).alloc _
      have HF := Lib.hid (And.intro f1 hq1)
      clear hw1 f1 hp1 hq1
      rw [H1.out]
      go_wp2_with fail
      (with_reducible refine (refIn_any _ _ _).mono ?_)
      rintro e w2 ⟨rfl, f2⟩
      have hq2 := f2.blk HF.out.2 (by simp)
      have q0 := hq2.at 0 (v := .int .i32 qx) rfl
      have q1 := hq2.at 1 (v := .int .i32 qy) rfl
      have HF2 := Lib.hid (HF.out.1.trans f2 (by simp))
      clear f2 hq2
      rw [H2.out]
      go_wp2_with fail
      (with_reducible refine (refIn_any _ _ _).mono ?_)
      rintro e w3 ⟨rfl, f3⟩
      have HF3 := Lib.hid (HF2.out.trans f3 (by simp))
      clear f3
      rw [H3.out]
      go_wp2
      go_ret
      exact ⟨_, rfl, hnil _, by simp [Value.ownBlock], HF3.out⟩

theorem refFirst_any (w : World) (px py qx qy s : Int) : Calls Try.prog 8 #[pt px py, pt qx qy, .int .i64 s, .int .i64 401] w (ListPost w ((lineSeq px py qx qy s).take 401)) := by
  cases hok : lineOk px py qx qy s with
  | false =>
    have e : lineSeq px py qx qy s = [] := by unfold lineSeq; rw [if_neg (by simp [hok])]
    rw [e]
    exact refFirst_no w px py qx qy s hok
  | true =>
    have hok' := hok
    unfold lineOk at hok
    simp only [Bool.and_eq_true] at hok
    obtain ⟨⟨h1, h2⟩, h3⟩ := hok
    by_cases hlt : qx < px
    · have e : lineSeq px py qx qy s = rightCells qx qy px py s := by unfold lineSeq; rw [if_pos hok', if_pos hlt]
      rw [e]
      exact refFirst_swap w qx qy px py s h1 h3 h2 hlt
    · have e : lineSeq px py qx qy s = rightCells px py qx qy s := by unfold lineSeq; rw [if_pos hok', if_neg hlt]
      rw [e]
      exact refFirst_in w px py qx qy s h1 h2 h3 (by omega)

theorem at_any (w : World) (x y : Int) : Calls Try.prog 27 #[.int .i32 x, .int .i32 y] w fun e w' => e = .returned (pt x y) ∧ Fr [] w w' := by
  unfold pt
  go_enter Try.func27, Try.ntmps27
  go_wp2
  refine bodyPost_ret (v := .agg #[.int .i32 x, .int .i32 y]) (by simp [results, Try.results27, go_sem]) rfl ⟨rfl, ?_⟩
  exact (Fr.refl _ _).alloc _

theorem lives_seq : (lineSeq 0 0 4 4 2).take 401 = [(0, 0), (1, 1), (2, 2)] := by decide

theorem RdC.new (w : World) (L : List (Int × Int)) (k : Nat) (hk : k = w.heap.size) (hl : L.length ≤ 4611686018427387904) : RdC (w.alloc (.cells (flat L).toArray 33)) (.slice (some ⟨k, 0, none⟩) L.length L.length) L := by
  subst hk
  refine ⟨_, _, rfl, hl, .inr ⟨_, 0, rfl, fun j hj => ?_⟩⟩
  obtain ⟨h1, h2⟩ := flat_get L hj
  have hb := Blk.new w (flat L).toArray 33
  exact ⟨hb.at _ (by simpa using h1), hb.at _ (by simpa [Nat.add_assoc] using h2)⟩

theorem rdc_three (w : World) (k : Nat) (hk : k = w.heap.size) :
    RdC (w.alloc (.cells #[.int .i32 0, .int .i32 0, .int .i32 1, .int .i32 1, .int .i32 2, .int .i32 2] 33)) (.slice (some ⟨k, 0, none⟩) 3 3) [(0, 0), (1, 1), (2, 2)] :=
  RdC.new w [(0, 0), (1, 1), (2, 2)] k hk (by simp)

theorem code_lives : ((codeN 1 0 : Nat) : Int) = (codeN 0 0 : Nat) + 1 ∧ (codeN 0 0 : Nat) ≤ 18446744073709551614 := by decide

set_option maxHeartbeats 1000000 in
theorem lives_any (w : World) : Calls Try.prog 11 #[] w fun e w' => e = .returned (.bool true) ∧ Fr [] w w' := by
  have HL := Lib.hid lives_seq
  obtain ⟨c1, c2⟩ := code_lives
  have HC := Lib.hid c1
  have c3 : ((codeN 0 0 : Nat) : Int) ≤ 18446744073709551614 := by omega
  clear c1 c2
  go_enter Try.func11, Try.ntmps11
  go_wp2_with fail
  (with_reducible refine (at_any _ _ _).mono ?_)
  rintro e w1 ⟨rfl, f1⟩
  go_wp2_with fail
  (with_reducible refine (at_any _ _ _).mono ?_)
  rintro e w2 ⟨rfl, f2⟩
  go_wp2_with fail
  (with_reducible refine (Line_any _ _ _ _ _ _).mono ?_)
  rintro e w3 ⟨rfl, hh, f3⟩
  have F3 := Lib.hid ((f1.trans f2 (by simp)).trans f3 (by simp))
  have hg2 : w.heap.size ≤ w2.heap.size := by have := f1.size; have := f2.size; omega
  clear f1 f2 f3
  go_wp2_with fail
  have hlh : LineHeld _ _ _ _ _ _ _ _ _ := Or.inl hh
  (with_reducible refine (first_line _ _ _ _ _ _ _ _ _ hlh).mono ?_)
  rintro e w4 ⟨v, rfl, hown, hge, hen, f4⟩
  rw [HL.out] at hown
  have F4 : Fr [] w w4 := F3.out.trans f4 (by intro x hx; simp at hx; omega)
  have hrd := RdC.of_own hown (by simp)
  have HH := Lib.hid (And.intro hrd F4)
  clear hown hge hen f4 F4 hrd hh hlh
  go_wp2_with fail
  have hr2 := HH.out.1.grow ((Fr.refl [] w4).alloc (.cells #[.int .i32 0, .int .i32 0, .int .i32 1, .int .i32 1, .int .i32 2, .int .i32 2] 33))
  (with_reducible refine (same_any _ _ _ _ _ hr2 (rdc_three _ _ rfl)).mono ?_)
  rintro e w5 ⟨rfl, f5⟩
  have HF5 := Lib.hid (((HH.out.2.alloc _).trans f5 (by simp)))
  clear f5 hr2
  rw [decide_eq_true rfl]
  go_wp2_with fail
  (with_reducible refine (Code_any _ _ _ ?_ ?_).mono ?_)
  · unfold I32; omega
  · unfold I32; omega
  rintro e w6 ⟨rfl, f6⟩
  have HF6 := Lib.hid (HF5.out.trans f6 (by simp))
  clear f6
  go_wp2_with fail
  (with_reducible refine (Code_any _ _ _ ?_ ?_).mono ?_)
  · unfold I32; omega
  · unfold I32; omega
  rintro e w7 ⟨rfl, f7⟩
  have HF7 := Lib.hid (HF6.out.trans f7 (by simp))
  clear f7
  rw [HC.out]
  go_wp2
  go_ret
  exact ⟨rfl, HF7.out⟩

end Go.Proofs.Ythagbhiblncpkaa
