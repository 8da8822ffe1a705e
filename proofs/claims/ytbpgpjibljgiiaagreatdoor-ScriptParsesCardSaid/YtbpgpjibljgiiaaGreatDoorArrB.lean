/-
  Script: an arrival's fields, where the kind has two words. Printed by genAr.py.
-/
import Derived.Test.YtbpgpjibljgiiaaGreatDoorArrA
namespace Go.Proofs.YtbpgpjibljgiiaaGreatDoor
open Go.RowKit
set_option linter.unusedVariables false
set_option linter.unusedSimpArgs false
attribute [local go_sem] Oper.semAt_some
namespace Sc
/-- Is there a way, and one of the two? -/
def wayOk (F : List ByteArray) (k : Nat) : Prop := k < F.length ∧ (fld F k = upB ∨ fld F k = downB)
instance (F : List ByteArray) (k : Nat) : Decidable (wayOk F k) := inferInstanceAs (Decidable (_ ∧ _))
def wayS (F : List ByteArray) (k : Nat) : Int := if wayOk F k then twoS F (k + 1) else 0
def wayP (F : List ByteArray) (k : Nat) : Int := if wayOk F k then twoP F (k + 1) else 0
def wayF (F : List ByteArray) (k : Nat) : Flt := if wayOk F k then twoF F (k + 1) else if k < F.length then some (k, 281) else some (k, 282)
def wayK (F : List ByteArray) (k : Nat) : Nat := if wayOk F k then twoK F (k + 1) else nextK F k
def wayD (kd : Nat) (F : List ByteArray) (k : Nat) : Nat := if k < F.length ∧ fld F k = upB then kd + 1 else kd
set_option maxRecDepth 100000 in
set_option maxHeartbeats 4000000 in
theorem arr_two (w : World) (r gF sb k kd : Nat) (la : Int) (by' : Value) (F : List ByteArray) (h : RowAt w r gF F k) (hs : Blk w sb (stepC kd la 0 0 by') 64) (hkd : kd < 255) (hF : ∀ s ∈ F, s.size ≤ 4294967296) (h1 : (wordsL kd).length = 2) :
    Calls Tryz.prog 63 #[.pointer (some ⟨r, 0, none⟩), .pointer (some ⟨sb, 0, none⟩)] w fun e w' => ∃ fv, e = .returned fv ∧ APost w r gF sb F (wayK F k) (wayF F k) (stepC (wayD kd F k) la (wayS F k) (wayP F k) by') fv w' := by
  have HW := Lib.hid (words_any w kd (by omega))
  have HN := Lib.hid (fun W k (h : RowAt W r gF F k) => number_any W r gF k F h hF)
  have HX := Lib.hid (fun W (h : RowAt W r gF F k) => next_any W r gF k F h)
  have HWr := Lib.hid (fun W (h : RowAt W r gF F (k + 1)) => wrong_any W r gF k F h)
  have d0 := hs.at 0 (v := .int .u8 kd) rfl
  have hne : r ≠ sb := h.hd.ne hs (by decide)
  have hne2 : gF ≠ sb := h.fs.ne hs (by decide)
  have HR := Lib.hid (And.intro h (And.intro hs (And.intro hne hne2)))
  have HL := Lib.hid h1
  obtain ⟨sl, hsl⟩ : ∃ x, x = wayS F k := ⟨_, rfl⟩
  obtain ⟨pl, hpl⟩ : ∃ x, x = wayP F k := ⟨_, rfl⟩
  obtain ⟨fl, hfl⟩ : ∃ x, x = wayF F k := ⟨_, rfl⟩
  obtain ⟨kk, hkk⟩ : ∃ x, x = wayK F k := ⟨_, rfl⟩
  obtain ⟨dd, hdd⟩ : ∃ x, x = wayD kd F k := ⟨_, rfl⟩
  rw [← hsl, ← hpl, ← hfl, ← hkk, ← hdd]
  have HO := Lib.hid (And.intro hsl (And.intro hpl (And.intro hfl (And.intro hkk hdd))))
  have hk1 : (kd : Int) < 255 := by omega
  clear h hs hF h1 hne hne2 hsl hpl hfl hkk hdd
  go_enter Tryz.func63, Tryz.ntmps63
  go_wp2_with fail
  (with_reducible refine HW.out.mono ?_)
  rintro e w1 ⟨v, rfl, hv, f1⟩
  obtain ⟨g, rfl⟩ : ∃ g, v = .slice (some ⟨g, 0, none⟩) 2 2 := by
    rcases hv with ⟨h, _⟩ | ⟨g, q1, _⟩
    · rw [h] at HL; exact absurd HL.out (by decide)
    · rw [HL.out] at q1; exact ⟨g, q1⟩
  have HR1 := Lib.hid (And.intro (HR.out.1.fr f1 (by simp) (by simp)) (And.intro (f1.blk HR.out.2.1 (by simp)) f1))
  clear hv f1 d0
  go_wp2_with fail
  (with_reducible refine (HX.out _ HR1.out.1).mono ?_)
  rintro e w5 ⟨fv, rfl, hp⟩
  have HPX := Lib.hid hp
  by_cases hlt : k < F.length
  · rw [nextK, nextF, if_pos hlt, if_pos hlt] at hp
    obtain rfl : fv = .pointer none := hp.2.1
    rw [show F.getD k ⟨#[]⟩ = fld F k from rfl]
    have HT5 := Lib.hid (show RowAt w5 r gF F (k + 1) ∧ Blk w5 sb (stepC kd la 0 0 by') 64 ∧ Fr [r, sb] w w5 from ⟨hp.1, hp.2.2.blk HR1.out.2.1 (by have := HR.out.2.2.1; simp; omega), (HR1.out.2.2.mono (by simp)).trans (hp.2.2.mono (by simp)) (fun x hx => .inl hx)⟩)
    clear hp HPX
    obtain ⟨s, hsf⟩ : ∃ s, fld F k = s := ⟨_, rfl⟩
    have HS := Lib.hid hsf
    rw [hsf]
    clear hsf
    by_cases hu : s = upB
    · have e1 : (s.toList == [117, 112]) = true := by rw [hu]; kernel_rfl
      have e2 : (s.toList == (⟨#[117, 112]⟩ : ByteArray).toList) = true := by rw [hu]; kernel_rfl
      have d0 := HT5.out.2.1.at 0 (v := .int .u8 kd) rfl
      have g0 := HT5.out.2.1.free 0
      have hok : wayOk F k := ⟨hlt, .inl (by rw [HS.out, hu])⟩
      have HE0 := Lib.hid (show sl = twoS F (k + 1) ∧ pl = twoP F (k + 1) ∧ fl = twoF F (k + 1) ∧ kk = twoK F (k + 1) ∧ dd = kd + 1 from ⟨by rw [HO.out.1]; exact if_pos hok, by rw [HO.out.2.1]; exact if_pos hok, by rw [HO.out.2.2.1]; exact if_pos hok, by rw [HO.out.2.2.2.1]; exact if_pos hok, by rw [HO.out.2.2.2.2]; exact if_pos ⟨hlt, by rw [HS.out, hu]⟩⟩)
      obtain ⟨w6, hw6⟩ : ∃ w6, w5.setCell ⟨sb, 0, none⟩ (.int .u8 ((kd : Int) + 1)) = w6 := ⟨_, rfl⟩
      have hT6 : Fr [sb] w5 w6 := by rw [← hw6]; exact (Fr.refl _ _).setCell _ _ (.inl (by simp))
      have HT := Lib.hid (show RowAt w6 r gF F (k + 1) ∧ Blk w6 sb (stepC (kd + 1) la 0 0 by') 64 ∧ Fr [r, sb] w w6 from ⟨HT5.out.1.fr hT6 (by have := HR.out.2.2.1; simp; omega) (by have := HR.out.2.2.2; simp; omega), by rw [← hw6]; exact HT5.out.2.1.set 0 _, HT5.out.2.2.trans (hT6.mono (by simp)) (fun x hx => .inl hx)⟩)
      have HW6 := Lib.hid hw6
      clear hw6 hT6 hok hu hlt
      go_upto_region 9 with fail
      rw [HW6.out]
      clear d0 g0
      go_wp2_with fail
      (with_reducible refine (HN.out _ (k + 1) HT.out.1).mono ?_)
      rintro e w2 ⟨fv, rfl, hp⟩
      cases hq : numF F (k + 1) with
      | some q =>
        rw [hq] at hp
        obtain ⟨b, rfl, hb, hn⟩ : ∃ b, fv = .pointer (some ⟨b, 0, none⟩) ∧ Blk w2 b #[.int .i64 q.1, .int .i64 q.2] 53 ∧ w6.heap.size ≤ b := hp.2.1
        have HP := Lib.hid (And.intro hp.1 (And.intro hb (And.intro hn hp.2.2)))
        have HE := Lib.hid (show sl = 0 ∧ pl = 0 ∧ fl = some q ∧ kk = nextK F (k + 1) from ⟨by rw [HE0.out.1]; unfold twoS; rw [hq]; rfl, by rw [HE0.out.2.1]; unfold twoP; rw [hq]; rfl, by rw [HE0.out.2.2.1]; unfold twoF; rw [hq]; rfl, by rw [HE0.out.2.2.2.1]; unfold twoK; rw [hq]; rfl⟩)
        clear hp hb hn hq
        go_wp2
        go_ret
        obtain ⟨z1, z2, z3, z4⟩ := HE.out
        have z5 := HE0.out.2.2.2.2
        subst z1; subst z2; subst z3; subst z4; subst z5
        exact ⟨_, rfl, HP.out.1, ⟨b, rfl, HP.out.2.1, Nat.le_trans HT.out.2.2.size HP.out.2.2.1⟩, HP.out.2.2.2.blk HT.out.2.1 (by have := HR.out.2.2.1; simp; omega), HT.out.2.2.trans (HP.out.2.2.2.mono (by simp)) (fun x hx => .inl hx)⟩
      | none =>
        rw [hq] at hp
        obtain rfl : fv = .pointer none := hp.2.1
        have HP := Lib.hid (And.intro hp.1 hp.2.2)
        have HE := Lib.hid (show sl = numN F (k + 1) ∧ pl = numN F (nextK F (k + 1)) ∧ fl = numF F (nextK F (k + 1)) ∧ kk = nextK F (nextK F (k + 1)) from ⟨by rw [HE0.out.1]; unfold twoS; rw [hq]; rfl, by rw [HE0.out.2.1]; unfold twoP; rw [hq]; rfl, by rw [HE0.out.2.2.1]; unfold twoF; rw [hq]; rfl, by rw [HE0.out.2.2.2.1]; unfold twoK; rw [hq]; rfl⟩)
        clear hp hq
        go_wp2_with fail
        (with_reducible refine (HN.out _ (nextK F (k + 1)) HP.out.1).mono ?_)
        rintro e w3 ⟨fv, rfl, hp⟩
        have hs3 : Blk w3 sb (stepC (kd + 1) la 0 0 by') 64 := hp.2.2.blk (HP.out.2.blk HT.out.2.1 (by have := HR.out.2.2.1; simp; omega)) (by have := HR.out.2.2.1; simp; omega)
        have d2 := hs3.at 2 (v := .int .i64 0) rfl
        have d3 := hs3.at 3 (v := .int .i64 0) rfl
        have g2 := hs3.free 2
        have g3 := hs3.free 3
        have HP3 := Lib.hid (And.intro hp hs3)
        clear hp hs3
        go_wp2
        go_ret
        obtain ⟨z1, z2, z3, z4⟩ := HE.out
        have z5 := HE0.out.2.2.2.2
        subst z1; subst z2; subst z3; subst z4; subst z5
        have hset := (HP3.out.2.set 2 (.int .i64 (numN F (k + 1)))).set 3 (.int .i64 (numN F (nextK F (k + 1))))
        have hfr : Fr [sb] w3 ((w3.setCell ⟨sb, 2, none⟩ (.int .i64 (numN F (k + 1)))).setCell ⟨sb, 3, none⟩ (.int .i64 (numN F (nextK F (k + 1))))) := ((Fr.refl _ _).setCell _ _ (.inl (by simp))).setCell _ _ (.inl (by simp))
        have hw : Fr [r, sb] w w3 := (HT.out.2.2.trans (HP.out.2.mono (by simp)) (fun x hx => .inl hx)).trans (HP3.out.1.2.2.mono (by simp)) (fun x hx => .inl hx)
        refine ⟨_, rfl, HP3.out.1.1.fr hfr (by have := HR.out.2.2.1; simp; omega) (by have := HR.out.2.2.2; simp; omega), ?_, hset, hw.trans (hfr.mono (by simp)) (fun x hx => .inl hx)⟩
        have h5 := HP3.out.1.2.1
        have hsz : w.heap.size ≤ w2.heap.size := Nat.le_trans HT.out.2.2.size HP.out.2.size
        revert h5
        generalize numF F (nextK F (k + 1)) = ff
        intro h5
        match ff, h5 with
        | none, h5 => exact h5
        | some q, ⟨b, q1, q2, q3⟩ => exact ⟨b, q1, hfr.blk q2 (by have := HR.out.2.1.lt; simp; omega), by omega⟩
    · have e1 : (s.toList == [117, 112]) = false := by rw [show ([117, 112] : List UInt8) = upB.toList by kernel_rfl, toList_beq]; exact decide_eq_false hu
      have e2 : (s.toList == (⟨#[117, 112]⟩ : ByteArray).toList) = false := by rw [toList_beq]; exact decide_eq_false hu
      by_cases hd : s = downB
      · have e3 : (s.toList != [100, 111, 119, 110]) = false := by rw [hd]; kernel_rfl
        have e4 : (s.toList == [100, 111, 119, 110]) = true := by rw [hd]; kernel_rfl
        have hok : wayOk F k := ⟨hlt, .inr (by rw [HS.out, hd])⟩
        have HE0 := Lib.hid (show sl = twoS F (k + 1) ∧ pl = twoP F (k + 1) ∧ fl = twoF F (k + 1) ∧ kk = twoK F (k + 1) ∧ dd = kd from ⟨by rw [HO.out.1]; exact if_pos hok, by rw [HO.out.2.1]; exact if_pos hok, by rw [HO.out.2.2.1]; exact if_pos hok, by rw [HO.out.2.2.2.1]; exact if_pos hok, by rw [HO.out.2.2.2.2]; exact if_neg (fun q => hu (by rw [← HS.out]; exact q.2))⟩)
        have HT := HT5
        clear hok hu hd hlt
        go_wp2_with fail
        (with_reducible refine (HN.out _ (k + 1) HT.out.1).mono ?_)
        rintro e w2 ⟨fv, rfl, hp⟩
        cases hq : numF F (k + 1) with
        | some q =>
          rw [hq] at hp
          obtain ⟨b, rfl, hb, hn⟩ : ∃ b, fv = .pointer (some ⟨b, 0, none⟩) ∧ Blk w2 b #[.int .i64 q.1, .int .i64 q.2] 53 ∧ w5.heap.size ≤ b := hp.2.1
          have HP := Lib.hid (And.intro hp.1 (And.intro hb (And.intro hn hp.2.2)))
          have HE := Lib.hid (show sl = 0 ∧ pl = 0 ∧ fl = some q ∧ kk = nextK F (k + 1) from ⟨by rw [HE0.out.1]; unfold twoS; rw [hq]; rfl, by rw [HE0.out.2.1]; unfold twoP; rw [hq]; rfl, by rw [HE0.out.2.2.1]; unfold twoF; rw [hq]; rfl, by rw [HE0.out.2.2.2.1]; unfold twoK; rw [hq]; rfl⟩)
          clear hp hb hn hq
          go_wp2
          go_ret
          obtain ⟨z1, z2, z3, z4⟩ := HE.out
          have z5 := HE0.out.2.2.2.2
          subst z1; subst z2; subst z3; subst z4; subst z5
          exact ⟨_, rfl, HP.out.1, ⟨b, rfl, HP.out.2.1, Nat.le_trans HT.out.2.2.size HP.out.2.2.1⟩, HP.out.2.2.2.blk HT.out.2.1 (by have := HR.out.2.2.1; simp; omega), HT.out.2.2.trans (HP.out.2.2.2.mono (by simp)) (fun x hx => .inl hx)⟩
        | none =>
          rw [hq] at hp
          obtain rfl : fv = .pointer none := hp.2.1
          have HP := Lib.hid (And.intro hp.1 hp.2.2)
          have HE := Lib.hid (show sl = numN F (k + 1) ∧ pl = numN F (nextK F (k + 1)) ∧ fl = numF F (nextK F (k + 1)) ∧ kk = nextK F (nextK F (k + 1)) from ⟨by rw [HE0.out.1]; unfold twoS; rw [hq]; rfl, by rw [HE0.out.2.1]; unfold twoP; rw [hq]; rfl, by rw [HE0.out.2.2.1]; unfold twoF; rw [hq]; rfl, by rw [HE0.out.2.2.2.1]; unfold twoK; rw [hq]; rfl⟩)
          clear hp hq
          go_wp2_with fail
          (with_reducible refine (HN.out _ (nextK F (k + 1)) HP.out.1).mono ?_)
          rintro e w3 ⟨fv, rfl, hp⟩
          have hs3 : Blk w3 sb (stepC kd la 0 0 by') 64 := hp.2.2.blk (HP.out.2.blk HT.out.2.1 (by have := HR.out.2.2.1; simp; omega)) (by have := HR.out.2.2.1; simp; omega)
          have d2 := hs3.at 2 (v := .int .i64 0) rfl
          have d3 := hs3.at 3 (v := .int .i64 0) rfl
          have g2 := hs3.free 2
          have g3 := hs3.free 3
          have HP3 := Lib.hid (And.intro hp hs3)
          clear hp hs3
          go_wp2
          go_ret
          obtain ⟨z1, z2, z3, z4⟩ := HE.out
          have z5 := HE0.out.2.2.2.2
          subst z1; subst z2; subst z3; subst z4; subst z5
          have hset := (HP3.out.2.set 2 (.int .i64 (numN F (k + 1)))).set 3 (.int .i64 (numN F (nextK F (k + 1))))
          have hfr : Fr [sb] w3 ((w3.setCell ⟨sb, 2, none⟩ (.int .i64 (numN F (k + 1)))).setCell ⟨sb, 3, none⟩ (.int .i64 (numN F (nextK F (k + 1))))) := ((Fr.refl _ _).setCell _ _ (.inl (by simp))).setCell _ _ (.inl (by simp))
          have hw : Fr [r, sb] w w3 := (HT.out.2.2.trans (HP.out.2.mono (by simp)) (fun x hx => .inl hx)).trans (HP3.out.1.2.2.mono (by simp)) (fun x hx => .inl hx)
          refine ⟨_, rfl, HP3.out.1.1.fr hfr (by have := HR.out.2.2.1; simp; omega) (by have := HR.out.2.2.2; simp; omega), ?_, hset, hw.trans (hfr.mono (by simp)) (fun x hx => .inl hx)⟩
          have h5 := HP3.out.1.2.1
          have hsz : w.heap.size ≤ w2.heap.size := Nat.le_trans HT.out.2.2.size HP.out.2.size
          revert h5
          generalize numF F (nextK F (k + 1)) = ff
          intro h5
          match ff, h5 with
          | none, h5 => exact h5
          | some q, ⟨b, q1, q2, q3⟩ => exact ⟨b, q1, hfr.blk q2 (by have := HR.out.2.1.lt; simp; omega), by omega⟩
      · have e3 : (s.toList != [100, 111, 119, 110]) = true := by rw [show ([100, 111, 119, 110] : List UInt8) = downB.toList by kernel_rfl, bne, toList_beq, decide_eq_false hd]; rfl
        have e4 : (s.toList == [100, 111, 119, 110]) = false := by rw [show ([100, 111, 119, 110] : List UInt8) = downB.toList by kernel_rfl, toList_beq]; exact decide_eq_false hd
        have hno : ¬ wayOk F k := fun q => by rw [wayOk, HS.out] at q; exact q.2.elim hu hd
        have HE := Lib.hid (show sl = 0 ∧ pl = 0 ∧ fl = some (k, 281) ∧ kk = k + 1 ∧ dd = kd from ⟨by rw [HO.out.1]; exact if_neg hno, by rw [HO.out.2.1]; exact if_neg hno, by rw [HO.out.2.2.1]; unfold wayF; rw [if_neg hno, if_pos hlt], by rw [HO.out.2.2.2.1]; unfold wayK nextK; rw [if_neg hno, if_pos hlt], by rw [HO.out.2.2.2.2]; exact if_neg (fun q => hu (by rw [← HS.out]; exact q.2))⟩)
        clear hno hu hd hlt
        go_wp2_with (go_at_call 34; refine (HWr.out _ HT5.out.1).mono ?_; rintro e w2 ⟨fv2, rfl, hp⟩)
        go_ret
        obtain ⟨z1, z2, z3, z4, z5⟩ := HE.out
        subst z1; subst z2; subst z3; subst z4; subst z5
        obtain ⟨b, q1, q2, q3⟩ := hp.2.1
        exact ⟨_, rfl, hp.1, ⟨b, q1, q2, Nat.le_trans HT5.out.2.2.size q3⟩, hp.2.2.blk HT5.out.2.1 (by have := HR.out.2.2.1; simp; omega), HT5.out.2.2.trans (hp.2.2.mono (by simp)) (fun x hx => .inl hx)⟩
  · rw [nextK, nextF, if_neg hlt, if_neg hlt] at hp
    obtain ⟨b, rfl, hb, hn⟩ : ∃ b, fv = .pointer (some ⟨b, 0, none⟩) ∧ Blk w5 b #[.int .i64 k, .int .i64 282] 53 ∧ w1.heap.size ≤ b := hp.2.1
    have hno : ¬ wayOk F k := fun q => hlt q.1
    have HE := Lib.hid (show sl = 0 ∧ pl = 0 ∧ fl = some (k, 282) ∧ kk = k ∧ dd = kd from ⟨by rw [HO.out.1]; exact if_neg hno, by rw [HO.out.2.1]; exact if_neg hno, by rw [HO.out.2.2.1]; unfold wayF; rw [if_neg hno, if_neg hlt], by rw [HO.out.2.2.2.1]; unfold wayK nextK; rw [if_neg hno, if_neg hlt], by rw [HO.out.2.2.2.2]; exact if_neg (fun q => hlt q.1)⟩)
    have HP := Lib.hid (And.intro hp.1 (And.intro hb (And.intro hn hp.2.2)))
    clear hp hb hn hno HPX
    generalize F.getD k ⟨#[]⟩ = s
    go_wp2
    go_ret
    obtain ⟨z1, z2, z3, z4, z5⟩ := HE.out
    subst z1; subst z2; subst z3; subst z4; subst z5
    exact ⟨_, rfl, HP.out.1, ⟨b, rfl, HP.out.2.1, Nat.le_trans HR1.out.2.2.size HP.out.2.2.1⟩, HP.out.2.2.2.blk HR1.out.2.1 (by have := HR.out.2.2.1; simp; omega), (HR1.out.2.2.mono (by simp)).trans (HP.out.2.2.2.mono (by simp)) (fun x hx => .inl hx)⟩
end Sc
end Go.Proofs.YtbpgpjibljgiiaaGreatDoor
