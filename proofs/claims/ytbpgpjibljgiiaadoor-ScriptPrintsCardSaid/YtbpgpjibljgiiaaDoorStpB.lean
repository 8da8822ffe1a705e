/-
  Script: a step's line: a turn, a tick.
-/
import Derived.Test.YtbpgpjibljgiiaaDoorStpA
namespace Go.Proofs.YtbpgpjibljgiiaaDoor
open Go.RowKit
set_option linter.unusedVariables false
set_option linter.unusedSimpArgs false
attribute [local go_sem] Oper.semAt_some
namespace Sc
set_option maxRecDepth 100000 in
set_option maxHeartbeats 4000000 in
theorem step_turn (w : World) (r gF kd : Nat) (F : List ByteArray) (h : RowAt w r gF F 0) (hF : 0 < F.length) (hk : kindN (fld F 0) = kd) (hkd : kd = 3 ∨ kd = 4) :
    Calls Tryd.prog 40 #[.pointer (some ⟨r, 0, none⟩)] w fun e w' => ∃ v fv, e = .returned (.tuple #[v, fv]) ∧ RPost w r gF F 1 (overF F 1) fv w' ∧ v = (if (overF F 1).isSome then zeroStep else .agg #[.int .u8 kd, .int .i64 0, .int .i64 0, .int .i64 0, .slice none 0 0]) := by
  have HX := Lib.hid (fun W (h : RowAt W r gF F 0) => next_any W r gF 0 F h)
  have HV := Lib.hid (fun W (h : RowAt W r gF F 1) => over_any W r gF 1 F h)
  have HK := Lib.hid (fun W => show Calls Tryd.prog 63 #[.string (fld F 0)] W fun e w' => e = .returned (.int .u8 kd) ∧ Fr [] W w' from by have := kind_any W (fld F 0); rw [hk] at this; exact this)
  have HR := Lib.hid h
  obtain ⟨sb, hsb⟩ : ∃ sb, sb = w.heap.size := ⟨_, rfl⟩
  have HSB := Lib.hid hsb
  have HF := Lib.hid hF
  obtain ⟨fl, hfl⟩ : ∃ fl, fl = overF F 1 := ⟨_, rfl⟩
  rw [← hfl]
  have HFL := Lib.hid hfl
  have z0 : ((kd : Int) == 0) = false := by rw [beq_eq_false_iff_ne]; omega
  have z1 : ((kd : Int) == 1) = false := by rw [beq_eq_false_iff_ne]; omega
  have z2 : ((kd : Int) == 2) = false := by rw [beq_eq_false_iff_ne]; omega
  have HKD := Lib.hid hkd
  clear h hk hsb hF hfl hkd
  go_enter Tryd.func40, Tryd.ntmps40
  go_wp2_with fail
  rw [← HSB.out]
  (with_reducible refine (HX.out _ (HR.out.fr ((Fr.refl [] _).alloc _) (by simp) (by simp))).mono ?_)
  rintro e w1 ⟨fv, rfl, hp⟩
  rw [nextK, nextF, if_pos HF.out, if_pos HF.out] at hp
  obtain rfl : fv = .pointer none := hp.2.1
  have hb1 : Blk w1 sb #[.int .u8 0, .int .i64 0, .int .i64 0, .int .i64 0, .slice none 0 0] 44 := hp.2.2.blk (Blk.new_at HSB.out _ _) (by have := HR.out.hd.lt; have := HSB.out; simp; omega)
  have HP := Lib.hid (And.intro hp.1 (And.intro hb1 (((Fr.refl [] w).alloc (.cells #[.int .u8 0, .int .i64 0, .int .i64 0, .int .i64 0, .slice none 0 0] 44)).mono (by simp) |>.trans hp.2.2 (fun x hx => .inl hx))))
  clear hp hb1
  rw [show F.getD 0 ⟨#[]⟩ = fld F 0 from rfl]
  generalize fld F 0 = s at HK ⊢
  go_wp2_with fail
  (with_reducible refine (HK.out _).mono ?_)
  rintro e w2 ⟨rfl, f2⟩
  have hb2 := f2.blk HP.out.2.1 (by simp)
  have d0 := hb2.at 0 (v := .int .u8 0) rfl
  have g0 := hb2.free 0
  obtain ⟨w3, hw3⟩ : ∃ w3, (w2.setCell ⟨sb, 0, none⟩ (.int .u8 kd)) = w3 := ⟨_, rfl⟩
  have hb3 : Blk w3 sb #[.int .u8 kd, .int .i64 0, .int .i64 0, .int .i64 0, .slice none 0 0] 44 := by rw [← hw3]; exact hb2.set 0 _
  have f3 : Fr [sb] w2 w3 := by rw [← hw3]; exact (Fr.refl _ _).setCell _ _ (.inl (by simp))
  have hlts := HR.out.lts
  have hz := HSB.out
  have H3 := Lib.hid (show RowAt w3 r gF F 1 ∧ Blk w3 sb _ 44 ∧ Fr [r] w w3 from ⟨(HP.out.1.fr f2 (by simp) (by simp)).fr f3 (by simp; omega) (by simp; omega), hb3, (HP.out.2.2.trans f2 (by simp)).trans f3 (fun x hx => .inr (by simp at hx; omega))⟩)
  have HW3 := Lib.hid hw3
  have c0 := hb3.at 0 (v := .int .u8 kd) rfl
  clear hb2 f2 hw3 hb3 f3 hlts hz
  go_upto_region 3 with fail
  rw [HW3.out]
  clear d0 g0
  rcases HKD.out with hkd | hkd
  · have z3 : ((kd : Int) == 3) = true := by rw [hkd]; rfl
    clear hkd
    go_wp2_with fail
    (with_reducible refine (HV.out _ H3.out.1).mono ?_)
    rintro e w4 ⟨fv, rfl, hp⟩
    rw [← HFL.out] at hp
    have H4 := Lib.hid (show Blk w4 sb _ 44 ∧ Fr [r] w w4 from ⟨hp.2.2.blk H3.out.2.1 (by have := HR.out.lts; have := HSB.out; simp; omega), H3.out.2.2.trans hp.2.2 (fun x hx => .inl hx)⟩)
    have HP4 := Lib.hid hp
    have q4 : can5 w4 sb = true := H4.out.1.can5
    have q5 := H4.out.1.st
    have o1 : (Value.int .u8 0).oneCell' = true := rfl
    have o2 : (Value.int .i64 0).oneCell' = true := rfl
    have o3 : (Value.slice none 0 0).oneCell' = true := rfl
    have o4 : (Value.int .u8 (kd : Int)).oneCell' = true := rfl
    cases fl with
    | none =>
      obtain rfl : fv = .pointer none := hp.2.1
      clear hp c0
      go_wp2_with fail
      have hl : Fr [sb] w4 (layS w4 sb (.int .u8 kd) (.int .i64 0) (.int .i64 0) (.int .i64 0) (.slice none 0 0)) := (Fr.refl _ _).lay _ _ _ _ _ _ (.inl (by simp))
      have hlts := HR.out.lts
      have hz := HSB.out
      refine bodyPost_ret (v := .tuple #[.agg #[.int .u8 kd, .int .i64 0, .int .i64 0, .int .i64 0, .slice none 0 0], .pointer none]) ?_ rfl ⟨_, _, rfl, ?_, rfl⟩
      · exact results_st rfl _ _ sb _ _ rfl rfl (H4.out.1.lay _ _ _ _ _).st
      · exact ⟨HP4.out.1.fr hl (by simp; omega) (by simp; omega), rfl, H4.out.2.trans hl (fun x hx => .inr (by simp at hx; omega))⟩
    | some q =>
      obtain ⟨b, rfl, hb, hn⟩ : ∃ b, fv = .pointer (some ⟨b, 0, none⟩) ∧ Blk w4 b #[.int .i64 q.1, .int .i64 q.2] 66 ∧ w3.heap.size ≤ b := hp.2.1
      have HB := Lib.hid (And.intro hb hn)
      clear hp hb hn c0
      go_wp2_with fail
      have hl : Fr [sb] w4 (layS w4 sb (.int .u8 0) (.int .i64 0) (.int .i64 0) (.int .i64 0) (.slice none 0 0)) := (Fr.refl _ _).lay _ _ _ _ _ _ (.inl (by simp))
      have hlts := HR.out.lts
      have hz := HSB.out
      have hsl : sb < w3.heap.size := H3.out.2.1.lt
      refine bodyPost_ret (v := .tuple #[zeroStep, .pointer (some ⟨b, 0, none⟩)]) ?_ rfl ⟨_, _, rfl, ?_, rfl⟩
      · exact results_st rfl _ _ sb _ _ rfl rfl (H4.out.1.lay _ _ _ _ _).st
      · exact ⟨HP4.out.1.fr hl (by simp; omega) (by simp; omega), ⟨b, rfl, hl.blk HB.out.1 (by have := HB.out.2; simp; omega), Nat.le_trans H3.out.2.2.size HB.out.2⟩, H4.out.2.trans hl (fun x hx => .inr (by simp at hx; omega))⟩
  · have z3 : ((kd : Int) == 3) = false := by rw [hkd]; rfl
    have z4 : ((kd : Int) == 4) = true := by rw [hkd]; rfl
    clear hkd
    go_wp2_with fail
    (with_reducible refine (HV.out _ H3.out.1).mono ?_)
    rintro e w4 ⟨fv, rfl, hp⟩
    rw [← HFL.out] at hp
    have H4 := Lib.hid (show Blk w4 sb _ 44 ∧ Fr [r] w w4 from ⟨hp.2.2.blk H3.out.2.1 (by have := HR.out.lts; have := HSB.out; simp; omega), H3.out.2.2.trans hp.2.2 (fun x hx => .inl hx)⟩)
    have HP4 := Lib.hid hp
    have q4 : can5 w4 sb = true := H4.out.1.can5
    have q5 := H4.out.1.st
    have o1 : (Value.int .u8 0).oneCell' = true := rfl
    have o2 : (Value.int .i64 0).oneCell' = true := rfl
    have o3 : (Value.slice none 0 0).oneCell' = true := rfl
    have o4 : (Value.int .u8 (kd : Int)).oneCell' = true := rfl
    cases fl with
    | none =>
      obtain rfl : fv = .pointer none := hp.2.1
      clear hp c0
      go_wp2_with fail
      have hl : Fr [sb] w4 (layS w4 sb (.int .u8 kd) (.int .i64 0) (.int .i64 0) (.int .i64 0) (.slice none 0 0)) := (Fr.refl _ _).lay _ _ _ _ _ _ (.inl (by simp))
      have hlts := HR.out.lts
      have hz := HSB.out
      refine bodyPost_ret (v := .tuple #[.agg #[.int .u8 kd, .int .i64 0, .int .i64 0, .int .i64 0, .slice none 0 0], .pointer none]) ?_ rfl ⟨_, _, rfl, ?_, rfl⟩
      · exact results_st rfl _ _ sb _ _ rfl rfl (H4.out.1.lay _ _ _ _ _).st
      · exact ⟨HP4.out.1.fr hl (by simp; omega) (by simp; omega), rfl, H4.out.2.trans hl (fun x hx => .inr (by simp at hx; omega))⟩
    | some q =>
      obtain ⟨b, rfl, hb, hn⟩ : ∃ b, fv = .pointer (some ⟨b, 0, none⟩) ∧ Blk w4 b #[.int .i64 q.1, .int .i64 q.2] 66 ∧ w3.heap.size ≤ b := hp.2.1
      have HB := Lib.hid (And.intro hb hn)
      clear hp hb hn c0
      go_wp2_with fail
      have hl : Fr [sb] w4 (layS w4 sb (.int .u8 0) (.int .i64 0) (.int .i64 0) (.int .i64 0) (.slice none 0 0)) := (Fr.refl _ _).lay _ _ _ _ _ _ (.inl (by simp))
      have hlts := HR.out.lts
      have hz := HSB.out
      have hsl : sb < w3.heap.size := H3.out.2.1.lt
      refine bodyPost_ret (v := .tuple #[zeroStep, .pointer (some ⟨b, 0, none⟩)]) ?_ rfl ⟨_, _, rfl, ?_, rfl⟩
      · exact results_st rfl _ _ sb _ _ rfl rfl (H4.out.1.lay _ _ _ _ _).st
      · exact ⟨HP4.out.1.fr hl (by simp; omega) (by simp; omega), ⟨b, rfl, hl.blk HB.out.1 (by have := HB.out.2; simp; omega), Nat.le_trans H3.out.2.2.size HB.out.2⟩, H4.out.2.trans hl (fun x hx => .inr (by simp at hx; omega))⟩
end Sc
end Go.Proofs.YtbpgpjibljgiiaaDoor
