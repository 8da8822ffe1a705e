/-
  Script: a step's line that begins with no kind's word.
  Script: a step's line: a turn, a tick.
  Script: a step's line: a lane.
  Script: a step's line: the arrivals. Printed by genSt.py.
  Script: a step's line: a command. Printed by genSt.py.
  Script: a step's line: every line.
-/
import Derived.Test.YtbpgpjibljgiiaaGreatDoorArrB
import Derived.Test.YtbpgpjibljgiiaaGreatDoorStK
namespace Go.Proofs.YtbpgpjibljgiiaaGreatDoor
open Go.RowKit
set_option linter.unusedVariables false
set_option linter.unusedSimpArgs false
attribute [local go_sem] Oper.semAt_some
namespace Sc
theorem RowAt.lts {W : World} {r gF k : Nat} {F : List ByteArray} (h : RowAt W r gF F k) : r < W.heap.size ∧ gF < W.heap.size := ⟨h.hd.lt, h.fs.lt⟩
def zeroStep : Value := .agg #[.int .u8 0, .int .i64 0, .int .i64 0, .int .i64 0, .slice none 0 0]
set_option maxRecDepth 100000 in
set_option maxHeartbeats 4000000 in
theorem step_none (w : World) (r gF : Nat) (F : List ByteArray) (h : RowAt w r gF F 0) (hF : 0 < F.length) (hk : kindN (fld F 0) = 0) :
    Calls Tryz.prog 36 #[.pointer (some ⟨r, 0, none⟩)] w fun e w' => ∃ fv, e = .returned (.tuple #[zeroStep, fv]) ∧ RPost w r gF F 1 (some (0, 280)) fv w' := by
  have HX := Lib.hid (fun W (h : RowAt W r gF F 0) => next_any W r gF 0 F h)
  have HK := Lib.hid (fun W => show Calls Tryz.prog 61 #[.string (fld F 0)] W fun e w' => e = .returned (.int .u8 0) ∧ Fr [] W w' from by have := kind_any W (fld F 0); rw [hk] at this; exact this)
  have HR := Lib.hid h
  obtain ⟨sb, hsb⟩ : ∃ sb, sb = w.heap.size := ⟨_, rfl⟩
  have HSB := Lib.hid hsb
  have HF := Lib.hid hF
  clear h hk hsb hF
  go_enter Tryz.func36, Tryz.ntmps36
  go_wp2_with fail
  rw [← HSB.out]
  (with_reducible refine (HX.out _ (HR.out.fr ((Fr.refl [] _).alloc _) (by simp) (by simp))).mono ?_)
  rintro e w1 ⟨fv, rfl, hp⟩
  rw [nextK, nextF, if_pos HF.out, if_pos HF.out] at hp
  obtain rfl : fv = .pointer none := hp.2.1
  have hb1 : Blk w1 sb #[.int .u8 0, .int .i64 0, .int .i64 0, .int .i64 0, .slice none 0 0] 64 := hp.2.2.blk (Blk.new_at HSB.out _ _) (by have := HR.out.hd.lt; have := HSB.out; simp; omega)
  have HP := Lib.hid (And.intro hp.1 (And.intro hb1 (((Fr.refl [] w).alloc (.cells #[.int .u8 0, .int .i64 0, .int .i64 0, .int .i64 0, .slice none 0 0] 64)).mono (by simp) |>.trans hp.2.2 (fun x hx => .inl hx))))
  clear hp hb1
  rw [show F.getD 0 ⟨#[]⟩ = fld F 0 from rfl]
  generalize fld F 0 = s at HK ⊢
  go_wp2_with fail
  (with_reducible refine (HK.out _).mono ?_)
  rintro e w2 ⟨rfl, f2⟩
  have hb2 := f2.blk HP.out.2.1 (by simp)
  have d0 := hb2.at 0 (v := .int .u8 0) rfl
  have g0 := hb2.free 0
  obtain ⟨w3, hw3⟩ : ∃ w3, (w2.setCell ⟨sb, 0, none⟩ (.int .u8 0)) = w3 := ⟨_, rfl⟩
  have hb3 : Blk w3 sb #[.int .u8 0, .int .i64 0, .int .i64 0, .int .i64 0, .slice none 0 0] 64 := by rw [← hw3]; exact hb2.set 0 _
  have f3 : Fr [sb] w2 w3 := by rw [← hw3]; exact (Fr.refl _ _).setCell _ _ (.inl (by simp))
  have H3 := Lib.hid (And.intro hb3 (And.intro f2 f3))
  have HW3 := Lib.hid hw3
  have c0 := hb3.at 0 (v := .int .u8 0) rfl
  clear hb2 f2 hw3 hb3 f3
  go_upto_region 3 with fail
  rw [HW3.out]
  clear d0 g0
  have q4 : can5 (w3.alloc (.cells #[.int .i64 0, .int .i64 280] 53)) sb = true := Blk.can5 (H3.out.1.alloc _)
  have o1 : (Value.int .u8 0).oneCell' = true := rfl
  have o2 : (Value.int .i64 0).oneCell' = true := rfl
  have o3 : (Value.slice none 0 0).oneCell' = true := rfl
  obtain ⟨w5, hw5⟩ : ∃ w5, layS (w3.alloc (.cells #[.int .i64 0, .int .i64 280] 53)) sb (.int .u8 0) (.int .i64 0) (.int .i64 0) (.int .i64 0) (.slice none 0 0) = w5 := ⟨_, rfl⟩
  have hb5 : Blk w5 sb #[.int .u8 0, .int .i64 0, .int .i64 0, .int .i64 0, .slice none 0 0] 64 := by rw [← hw5]; exact Blk.lay (H3.out.1.alloc _) _ _ _ _ _
  have hlt : sb < w3.heap.size := H3.out.1.lt
  have hf5 : Fr [sb] w3 w5 := by rw [← hw5]; exact ((Fr.refl _ _).alloc _).lay _ _ _ _ _ _ (.inl (by simp))
  have hfb : Blk w5 w3.heap.size #[.int .i64 0, .int .i64 280] 53 := by
    rw [← hw5]
    exact (((((Blk.new w3 _ 53).other _ _ (by simp; omega)).other _ _ (by simp; omega)).other _ _ (by simp; omega)).other _ _ (by simp; omega)).other _ _ (by simp; omega)
  have H5 := Lib.hid (And.intro hb5 (And.intro hf5 hfb))
  have HW5 := Lib.hid hw5
  clear hb5 hlt hf5 hfb hw5
  go_wp2_with fail
  rw [HW5.out]
  refine bodyPost_ret (v := .tuple #[zeroStep, .pointer (some ⟨w3.heap.size, 0, none⟩)]) ?_ rfl ⟨_, rfl, ?_, ⟨_, rfl, H5.out.2.2, ?_⟩, ?_⟩
  · exact results_st rfl _ _ sb _ _ rfl rfl (H5.out.1.st)
  · have hr := HR.out.lts
    have hz := HSB.out
    exact ((HP.out.1.fr H3.out.2.1 (by simp) (by simp)).fr H3.out.2.2 (by simp; omega) (by simp; omega)).fr H5.out.2.1 (by simp; omega) (by simp; omega)
  · have := HP.out.2.2.size
    have := H3.out.2.1.size
    have := H3.out.2.2.size
    omega
  · have hz := HSB.out
    exact ((HP.out.2.2.trans H3.out.2.1 (by simp)).trans H3.out.2.2 (fun x hx => .inr (by simp at hx; omega))).trans H5.out.2.1 (fun x hx => .inr (by simp at hx; omega))
end Sc
end Go.Proofs.YtbpgpjibljgiiaaGreatDoor
namespace Go.Proofs.YtbpgpjibljgiiaaGreatDoor
open Go.RowKit
set_option linter.unusedVariables false
set_option linter.unusedSimpArgs false
attribute [local go_sem] Oper.semAt_some
namespace Sc
set_option maxRecDepth 100000 in
set_option maxHeartbeats 4000000 in
theorem step_turn (w : World) (r gF kd : Nat) (F : List ByteArray) (h : RowAt w r gF F 0) (hF : 0 < F.length) (hk : kindN (fld F 0) = kd) (hkd : kd = 3 ∨ kd = 4) :
    Calls Tryz.prog 36 #[.pointer (some ⟨r, 0, none⟩)] w fun e w' => ∃ v fv, e = .returned (.tuple #[v, fv]) ∧ RPost w r gF F 1 (overF F 1) fv w' ∧ v = (if (overF F 1).isSome then zeroStep else .agg #[.int .u8 kd, .int .i64 0, .int .i64 0, .int .i64 0, .slice none 0 0]) := by
  have HX := Lib.hid (fun W (h : RowAt W r gF F 0) => next_any W r gF 0 F h)
  have HV := Lib.hid (fun W (h : RowAt W r gF F 1) => over_any W r gF 1 F h)
  have HK := Lib.hid (fun W => show Calls Tryz.prog 61 #[.string (fld F 0)] W fun e w' => e = .returned (.int .u8 kd) ∧ Fr [] W w' from by have := kind_any W (fld F 0); rw [hk] at this; exact this)
  have HR := Lib.hid h
  obtain ⟨sb, hsb⟩ : ∃ sb, sb = w.heap.size := ⟨_, rfl⟩
  have HSB := Lib.hid hsb
  have HF := Lib.hid hF
  obtain ⟨fl, hfl⟩ : ∃ fl, fl = overF F 1 := ⟨_, rfl⟩
  rw [← hfl]
  have HFL := Lib.hid hfl
  have z0 : ((kd : Int) == 0) = false := by rw [beq_eq_false_iff_ne]; omega
  have z1 : ((kd : Int) == 1) = false := by rw [beq_eq_false_iff_ne]; omega
  have z2 : ((kd : Int) == 2) = false := by rw [beq_eq_false_iff_ne]; omega
  have HKD := Lib.hid hkd
  clear h hk hsb hF hfl hkd
  go_enter Tryz.func36, Tryz.ntmps36
  go_wp2_with fail
  rw [← HSB.out]
  (with_reducible refine (HX.out _ (HR.out.fr ((Fr.refl [] _).alloc _) (by simp) (by simp))).mono ?_)
  rintro e w1 ⟨fv, rfl, hp⟩
  rw [nextK, nextF, if_pos HF.out, if_pos HF.out] at hp
  obtain rfl : fv = .pointer none := hp.2.1
  have hb1 : Blk w1 sb #[.int .u8 0, .int .i64 0, .int .i64 0, .int .i64 0, .slice none 0 0] 64 := hp.2.2.blk (Blk.new_at HSB.out _ _) (by have := HR.out.hd.lt; have := HSB.out; simp; omega)
  have HP := Lib.hid (And.intro hp.1 (And.intro hb1 (((Fr.refl [] w).alloc (.cells #[.int .u8 0, .int .i64 0, .int .i64 0, .int .i64 0, .slice none 0 0] 64)).mono (by simp) |>.trans hp.2.2 (fun x hx => .inl hx))))
  clear hp hb1
  rw [show F.getD 0 ⟨#[]⟩ = fld F 0 from rfl]
  generalize fld F 0 = s at HK ⊢
  go_wp2_with fail
  (with_reducible refine (HK.out _).mono ?_)
  rintro e w2 ⟨rfl, f2⟩
  have hb2 := f2.blk HP.out.2.1 (by simp)
  have d0 := hb2.at 0 (v := .int .u8 0) rfl
  have g0 := hb2.free 0
  obtain ⟨w3, hw3⟩ : ∃ w3, (w2.setCell ⟨sb, 0, none⟩ (.int .u8 kd)) = w3 := ⟨_, rfl⟩
  have hb3 : Blk w3 sb #[.int .u8 kd, .int .i64 0, .int .i64 0, .int .i64 0, .slice none 0 0] 64 := by rw [← hw3]; exact hb2.set 0 _
  have f3 : Fr [sb] w2 w3 := by rw [← hw3]; exact (Fr.refl _ _).setCell _ _ (.inl (by simp))
  have hlts := HR.out.lts
  have hz := HSB.out
  have H3 := Lib.hid (show RowAt w3 r gF F 1 ∧ Blk w3 sb _ 64 ∧ Fr [r] w w3 from ⟨(HP.out.1.fr f2 (by simp) (by simp)).fr f3 (by simp; omega) (by simp; omega), hb3, (HP.out.2.2.trans f2 (by simp)).trans f3 (fun x hx => .inr (by simp at hx; omega))⟩)
  have HW3 := Lib.hid hw3
  have c0 := hb3.at 0 (v := .int .u8 kd) rfl
  clear hb2 f2 hw3 hb3 f3 hlts hz
  go_upto_region 3 with fail
  rw [HW3.out]
  clear d0 g0
  rcases HKD.out with hkd | hkd
  · have z3 : ((kd : Int) == 3) = true := by rw [hkd]; rfl
    clear hkd
    go_wp2_with fail
    (with_reducible refine (HV.out _ H3.out.1).mono ?_)
    rintro e w4 ⟨fv, rfl, hp⟩
    rw [← HFL.out] at hp
    have H4 := Lib.hid (show Blk w4 sb _ 64 ∧ Fr [r] w w4 from ⟨hp.2.2.blk H3.out.2.1 (by have := HR.out.lts; have := HSB.out; simp; omega), H3.out.2.2.trans hp.2.2 (fun x hx => .inl hx)⟩)
    have HP4 := Lib.hid hp
    have q4 : can5 w4 sb = true := H4.out.1.can5
    have q5 := H4.out.1.st
    have o1 : (Value.int .u8 0).oneCell' = true := rfl
    have o2 : (Value.int .i64 0).oneCell' = true := rfl
    have o3 : (Value.slice none 0 0).oneCell' = true := rfl
    have o4 : (Value.int .u8 (kd : Int)).oneCell' = true := rfl
    cases fl with
    | none =>
      obtain rfl : fv = .pointer none := hp.2.1
      clear hp c0
      go_wp2_with fail
      have hl : Fr [sb] w4 (layS w4 sb (.int .u8 kd) (.int .i64 0) (.int .i64 0) (.int .i64 0) (.slice none 0 0)) := (Fr.refl _ _).lay _ _ _ _ _ _ (.inl (by simp))
      have hlts := HR.out.lts
      have hz := HSB.out
      refine bodyPost_ret (v := .tuple #[.agg #[.int .u8 kd, .int .i64 0, .int .i64 0, .int .i64 0, .slice none 0 0], .pointer none]) ?_ rfl ⟨_, _, rfl, ?_, rfl⟩
      · exact results_st rfl _ _ sb _ _ rfl rfl (H4.out.1.lay _ _ _ _ _).st
      · exact ⟨HP4.out.1.fr hl (by simp; omega) (by simp; omega), rfl, H4.out.2.trans hl (fun x hx => .inr (by simp at hx; omega))⟩
    | some q =>
      obtain ⟨b, rfl, hb, hn⟩ : ∃ b, fv = .pointer (some ⟨b, 0, none⟩) ∧ Blk w4 b #[.int .i64 q.1, .int .i64 q.2] 53 ∧ w3.heap.size ≤ b := hp.2.1
      have HB := Lib.hid (And.intro hb hn)
      clear hp hb hn c0
      go_wp2_with fail
      have hl : Fr [sb] w4 (layS w4 sb (.int .u8 0) (.int .i64 0) (.int .i64 0) (.int .i64 0) (.slice none 0 0)) := (Fr.refl _ _).lay _ _ _ _ _ _ (.inl (by simp))
      have hlts := HR.out.lts
      have hz := HSB.out
      have hsl : sb < w3.heap.size := H3.out.2.1.lt
      refine bodyPost_ret (v := .tuple #[zeroStep, .pointer (some ⟨b, 0, none⟩)]) ?_ rfl ⟨_, _, rfl, ?_, rfl⟩
      · exact results_st rfl _ _ sb _ _ rfl rfl (H4.out.1.lay _ _ _ _ _).st
      · exact ⟨HP4.out.1.fr hl (by simp; omega) (by simp; omega), ⟨b, rfl, hl.blk HB.out.1 (by have := HB.out.2; simp; omega), Nat.le_trans H3.out.2.2.size HB.out.2⟩, H4.out.2.trans hl (fun x hx => .inr (by simp at hx; omega))⟩
  · have z3 : ((kd : Int) == 3) = false := by rw [hkd]; rfl
    have z4 : ((kd : Int) == 4) = true := by rw [hkd]; rfl
    clear hkd
    go_wp2_with fail
    (with_reducible refine (HV.out _ H3.out.1).mono ?_)
    rintro e w4 ⟨fv, rfl, hp⟩
    rw [← HFL.out] at hp
    have H4 := Lib.hid (show Blk w4 sb _ 64 ∧ Fr [r] w w4 from ⟨hp.2.2.blk H3.out.2.1 (by have := HR.out.lts; have := HSB.out; simp; omega), H3.out.2.2.trans hp.2.2 (fun x hx => .inl hx)⟩)
    have HP4 := Lib.hid hp
    have q4 : can5 w4 sb = true := H4.out.1.can5
    have q5 := H4.out.1.st
    have o1 : (Value.int .u8 0).oneCell' = true := rfl
    have o2 : (Value.int .i64 0).oneCell' = true := rfl
    have o3 : (Value.slice none 0 0).oneCell' = true := rfl
    have o4 : (Value.int .u8 (kd : Int)).oneCell' = true := rfl
    cases fl with
    | none =>
      obtain rfl : fv = .pointer none := hp.2.1
      clear hp c0
      go_wp2_with fail
      have hl : Fr [sb] w4 (layS w4 sb (.int .u8 kd) (.int .i64 0) (.int .i64 0) (.int .i64 0) (.slice none 0 0)) := (Fr.refl _ _).lay _ _ _ _ _ _ (.inl (by simp))
      have hlts := HR.out.lts
      have hz := HSB.out
      refine bodyPost_ret (v := .tuple #[.agg #[.int .u8 kd, .int .i64 0, .int .i64 0, .int .i64 0, .slice none 0 0], .pointer none]) ?_ rfl ⟨_, _, rfl, ?_, rfl⟩
      · exact results_st rfl _ _ sb _ _ rfl rfl (H4.out.1.lay _ _ _ _ _).st
      · exact ⟨HP4.out.1.fr hl (by simp; omega) (by simp; omega), rfl, H4.out.2.trans hl (fun x hx => .inr (by simp at hx; omega))⟩
    | some q =>
      obtain ⟨b, rfl, hb, hn⟩ : ∃ b, fv = .pointer (some ⟨b, 0, none⟩) ∧ Blk w4 b #[.int .i64 q.1, .int .i64 q.2] 53 ∧ w3.heap.size ≤ b := hp.2.1
      have HB := Lib.hid (And.intro hb hn)
      clear hp hb hn c0
      go_wp2_with fail
      have hl : Fr [sb] w4 (layS w4 sb (.int .u8 0) (.int .i64 0) (.int .i64 0) (.int .i64 0) (.slice none 0 0)) := (Fr.refl _ _).lay _ _ _ _ _ _ (.inl (by simp))
      have hlts := HR.out.lts
      have hz := HSB.out
      have hsl : sb < w3.heap.size := H3.out.2.1.lt
      refine bodyPost_ret (v := .tuple #[zeroStep, .pointer (some ⟨b, 0, none⟩)]) ?_ rfl ⟨_, _, rfl, ?_, rfl⟩
      · exact results_st rfl _ _ sb _ _ rfl rfl (H4.out.1.lay _ _ _ _ _).st
      · exact ⟨HP4.out.1.fr hl (by simp; omega) (by simp; omega), ⟨b, rfl, hl.blk HB.out.1 (by have := HB.out.2; simp; omega), Nat.le_trans H3.out.2.2.size HB.out.2⟩, H4.out.2.trans hl (fun x hx => .inr (by simp at hx; omega))⟩
end Sc
end Go.Proofs.YtbpgpjibljgiiaaGreatDoor
namespace Go.Proofs.YtbpgpjibljgiiaaGreatDoor
open Go.RowKit
set_option linter.unusedVariables false
set_option linter.unusedSimpArgs false
attribute [local go_sem] Oper.semAt_some
namespace Sc
def laneF (F : List ByteArray) : Flt := if (numF F 1).isSome then numF F 1 else overF F (nextK F 1)
set_option maxRecDepth 100000 in
set_option maxHeartbeats 4000000 in
theorem step_lane (w : World) (r gF : Nat) (F : List ByteArray) (h : RowAt w r gF F 0) (hF : 0 < F.length) (hk : kindN (fld F 0) = 2) (hFs : ∀ s ∈ F, s.size ≤ 4294967296) :
    Calls Tryz.prog 36 #[.pointer (some ⟨r, 0, none⟩)] w fun e w' => ∃ v fv, e = .returned (.tuple #[v, fv]) ∧ RPost w r gF F (nextK F 1) (laneF F) fv w' ∧ v = (if (laneF F).isSome then zeroStep else .agg #[.int .u8 2, .int .i64 (numN F 1), .int .i64 0, .int .i64 0, .slice none 0 0]) := by
  have HX := Lib.hid (fun W (h : RowAt W r gF F 0) => next_any W r gF 0 F h)
  have HV := Lib.hid (fun W (h : RowAt W r gF F (nextK F 1)) => over_any W r gF _ F h)
  have HN := Lib.hid (fun W (h : RowAt W r gF F 1) => number_any W r gF 1 F h hFs)
  have HK := Lib.hid (fun W => show Calls Tryz.prog 61 #[.string (fld F 0)] W fun e w' => e = .returned (.int .u8 2) ∧ Fr [] W w' from by have := kind_any W (fld F 0); rw [hk] at this; exact this)
  have HR := Lib.hid h
  obtain ⟨sb, hsb⟩ : ∃ sb, sb = w.heap.size := ⟨_, rfl⟩
  have HSB := Lib.hid hsb
  have HF := Lib.hid hF
  obtain ⟨fl, hfl⟩ : ∃ fl, fl = laneF F := ⟨_, rfl⟩
  rw [← hfl]
  have HFL := Lib.hid hfl
  clear h hk hsb hF hfl hFs
  go_enter Tryz.func36, Tryz.ntmps36
  go_wp2_with fail
  rw [← HSB.out]
  (with_reducible refine (HX.out _ (HR.out.fr ((Fr.refl [] _).alloc _) (by simp) (by simp))).mono ?_)
  rintro e w1 ⟨fv, rfl, hp⟩
  rw [nextK, nextF, if_pos HF.out, if_pos HF.out] at hp
  obtain rfl : fv = .pointer none := hp.2.1
  have hb1 : Blk w1 sb #[.int .u8 0, .int .i64 0, .int .i64 0, .int .i64 0, .slice none 0 0] 64 := hp.2.2.blk (Blk.new_at HSB.out _ _) (by have := HR.out.hd.lt; have := HSB.out; simp; omega)
  have HP := Lib.hid (And.intro hp.1 (And.intro hb1 (((Fr.refl [] w).alloc (.cells #[.int .u8 0, .int .i64 0, .int .i64 0, .int .i64 0, .slice none 0 0] 64)).mono (by simp) |>.trans hp.2.2 (fun x hx => .inl hx))))
  clear hp hb1
  rw [show F.getD 0 ⟨#[]⟩ = fld F 0 from rfl]
  generalize fld F 0 = s at HK ⊢
  go_wp2_with fail
  (with_reducible refine (HK.out _).mono ?_)
  rintro e w2 ⟨rfl, f2⟩
  have hb2 := f2.blk HP.out.2.1 (by simp)
  have d0 := hb2.at 0 (v := .int .u8 0) rfl
  have g0 := hb2.free 0
  obtain ⟨w3, hw3⟩ : ∃ w3, (w2.setCell ⟨sb, 0, none⟩ (.int .u8 2)) = w3 := ⟨_, rfl⟩
  have hb3 : Blk w3 sb #[.int .u8 2, .int .i64 0, .int .i64 0, .int .i64 0, .slice none 0 0] 64 := by rw [← hw3]; exact hb2.set 0 _
  have f3 : Fr [sb] w2 w3 := by rw [← hw3]; exact (Fr.refl _ _).setCell _ _ (.inl (by simp))
  have hlts := HR.out.lts
  have hz := HSB.out
  have H3 := Lib.hid (show RowAt w3 r gF F 1 ∧ Blk w3 sb _ 64 ∧ Fr [r] w w3 from ⟨(HP.out.1.fr f2 (by simp) (by simp)).fr f3 (by simp; omega) (by simp; omega), hb3, (HP.out.2.2.trans f2 (by simp)).trans f3 (fun x hx => .inr (by simp at hx; omega))⟩)
  have HW3 := Lib.hid hw3
  have c0 := hb3.at 0 (v := .int .u8 2) rfl
  clear hb2 f2 hw3 hb3 f3 hlts hz
  go_upto_region 3 with fail
  rw [HW3.out]
  clear d0 g0
  go_wp2_with fail
  (with_reducible refine (HN.out _ H3.out.1).mono ?_)
  rintro e w4 ⟨fv, rfl, hp⟩
  have hlts := HR.out.lts
  have hz := HSB.out
  have hs4 := hp.2.2.blk H3.out.2.1 (by simp; omega)
  have d1 := hs4.at 1 (v := .int .i64 0) rfl
  have g1 := hs4.free 1
  obtain ⟨w5, hw5⟩ : ∃ w5, (w4.setCell ⟨sb, 1, none⟩ (.int .i64 (numN F 1))) = w5 := ⟨_, rfl⟩
  have hs5 : Blk w5 sb #[.int .u8 2, .int .i64 (numN F 1), .int .i64 0, .int .i64 0, .slice none 0 0] 64 := by rw [← hw5]; exact hs4.set 1 _
  have f5 : Fr [sb] w4 w5 := by rw [← hw5]; exact (Fr.refl _ _).setCell _ _ (.inl (by simp))
  have H5 := Lib.hid (show RowAt w5 r gF F (nextK F 1) ∧ Blk w5 sb _ 64 ∧ Fr [r] w w5 from ⟨hp.1.fr f5 (by simp; omega) (by simp; omega), hs5, (H3.out.2.2.trans hp.2.2 (fun x hx => .inl hx)).trans f5 (fun x hx => .inr (by simp at hx; omega))⟩)
  have HW5 := Lib.hid hw5
  have o1 : (Value.int .u8 0).oneCell' = true := rfl
  have o2 : (Value.int .i64 0).oneCell' = true := rfl
  have o3 : (Value.slice none 0 0).oneCell' = true := rfl
  have hsl : sb < w3.heap.size := H3.out.2.1.lt
  cases hq : numF F 1 with
  | some q =>
    rw [hq] at hp
    obtain ⟨b, rfl, hb, hn⟩ : ∃ b, fv = .pointer (some ⟨b, 0, none⟩) ∧ Blk w4 b #[.int .i64 q.1, .int .i64 q.2] 53 ∧ w3.heap.size ≤ b := hp.2.1
    have HB := Lib.hid (And.intro (f5.blk hb (by simp; omega)) hn)
    have HE := Lib.hid (show fl = some q by rw [HFL.out]; unfold laneF; rw [hq]; rfl)
    have q4 : can5 w5 sb = true := hs5.can5
    obtain rfl := HE.out
    clear hp hb hn hq hw5 hs5 f5 hs4 hz hlts
    go_upto_region 15 with fail
    rw [HW5.out]
    clear d1 g1 c0
    go_wp2_with fail
    have hlts := HR.out.lts
    have hz := HSB.out
    have hl : Fr [sb] w5 (layS w5 sb (.int .u8 0) (.int .i64 0) (.int .i64 0) (.int .i64 0) (.slice none 0 0)) := (Fr.refl _ _).lay _ _ _ _ _ _ (.inl (by simp))
    refine bodyPost_ret (v := .tuple #[zeroStep, .pointer (some ⟨b, 0, none⟩)]) ?_ rfl ⟨_, _, rfl, ?_, rfl⟩
    · exact results_st rfl _ _ sb _ _ rfl rfl (H5.out.2.1.lay _ _ _ _ _).st
    · exact ⟨H5.out.1.fr hl (by simp; omega) (by simp; omega), ⟨b, rfl, hl.blk HB.out.1 (by have := HB.out.2; simp; omega), Nat.le_trans H3.out.2.2.size HB.out.2⟩, H5.out.2.2.trans hl (fun x hx => .inr (by simp at hx; omega))⟩
  | none =>
    rw [hq] at hp
    obtain rfl : fv = .pointer none := hp.2.1
    have HE := Lib.hid (show fl = overF F (nextK F 1) by rw [HFL.out]; unfold laneF; rw [hq]; rfl)
    clear hp hq hw5 hs5 f5 hs4 hz hlts
    go_upto_region 15 with fail
    rw [HW5.out]
    clear d1 g1 c0
    go_wp2_with fail
    (with_reducible refine (HV.out _ H5.out.1).mono ?_)
    rintro e w6 ⟨fv, rfl, hp⟩
    rw [← HE.out] at hp
    have H6 := Lib.hid (show Blk w6 sb _ 64 ∧ Fr [r] w w6 from ⟨hp.2.2.blk H5.out.2.1 (by have := HR.out.lts; have := HSB.out; simp; omega), H5.out.2.2.trans hp.2.2 (fun x hx => .inl hx)⟩)
    have HP6 := Lib.hid hp
    have q4 : can5 w6 sb = true := H6.out.1.can5
    have q5 := H6.out.1.st
    have o4 : (Value.int .u8 2).oneCell' = true := rfl
    have o5 : (Value.int .i64 (numN F 1)).oneCell' = true := rfl
    have HS5 := Lib.hid (show sb < w5.heap.size from H5.out.2.1.lt)
    clear hsl
    cases fl with
    | none =>
      obtain rfl : fv = .pointer none := hp.2.1
      clear hp
      go_wp2_with fail
      have hl : Fr [sb] w6 (layS w6 sb (.int .u8 2) (.int .i64 (numN F 1)) (.int .i64 0) (.int .i64 0) (.slice none 0 0)) := (Fr.refl _ _).lay _ _ _ _ _ _ (.inl (by simp))
      have hlts := HR.out.lts
      have hz := HSB.out
      refine bodyPost_ret (v := .tuple #[.agg #[.int .u8 2, .int .i64 (numN F 1), .int .i64 0, .int .i64 0, .slice none 0 0], .pointer none]) ?_ rfl ⟨_, _, rfl, ?_, rfl⟩
      · exact results_st rfl _ _ sb _ _ rfl rfl (H6.out.1.lay _ _ _ _ _).st
      · exact ⟨HP6.out.1.fr hl (by simp; omega) (by simp; omega), rfl, H6.out.2.trans hl (fun x hx => .inr (by simp at hx; omega))⟩
    | some q =>
      obtain ⟨b, rfl, hb, hn⟩ : ∃ b, fv = .pointer (some ⟨b, 0, none⟩) ∧ Blk w6 b #[.int .i64 q.1, .int .i64 q.2] 53 ∧ w5.heap.size ≤ b := hp.2.1
      have HB := Lib.hid (And.intro hb hn)
      clear hp hb hn
      go_wp2_with fail
      have hl : Fr [sb] w6 (layS w6 sb (.int .u8 0) (.int .i64 0) (.int .i64 0) (.int .i64 0) (.slice none 0 0)) := (Fr.refl _ _).lay _ _ _ _ _ _ (.inl (by simp))
      have hlts := HR.out.lts
      have hz := HSB.out
      refine bodyPost_ret (v := .tuple #[zeroStep, .pointer (some ⟨b, 0, none⟩)]) ?_ rfl ⟨_, _, rfl, ?_, rfl⟩
      · exact results_st rfl _ _ sb _ _ rfl rfl (H6.out.1.lay _ _ _ _ _).st
      · exact ⟨HP6.out.1.fr hl (by simp; omega) (by simp; omega), ⟨b, rfl, hl.blk HB.out.1 (by have := HB.out.2; have := HS5.out; simp; omega), Nat.le_trans H5.out.2.2.size HB.out.2⟩, H6.out.2.trans hl (fun x hx => .inr (by simp at hx; omega))⟩
end Sc
end Go.Proofs.YtbpgpjibljgiiaaGreatDoor
namespace Go.Proofs.YtbpgpjibljgiiaaGreatDoor
open Go.RowKit
set_option linter.unusedVariables false
set_option linter.unusedSimpArgs false
attribute [local go_sem] Oper.semAt_some
namespace Sc
/-- A fault, or the next one. -/
def thenF (f g : Flt) : Flt := if f.isSome then f else g
/-- A list of bytes that lies in memory of its own. -/
def BytV (W : World) (n0 : Nat) (v : Value) (l : List Int) : Prop := W.ownsRow 0 5 1 v l.length (u8s l) ∧ ∀ g, v.ownBlock = some g → n0 ≤ g
theorem BytV.nil (W : World) (n0 : Nat) : BytV W n0 (.slice none 0 0) [] := ⟨World.ownsRow_nil _ _ _ _, by simp [Value.ownBlock]⟩
theorem BytV.fr' {W W' : World} {n0 : Nat} {v : Value} {l : List Int} {S : List Nat} (h : BytV W n0 v l) (f : Fr S W W') (hs : ∀ g, v.ownBlock = some g → g ∉ S) : BytV W' n0 v l := ⟨own_fr h.1 f hs, h.2⟩
theorem BytV.fr {W W' : World} {n0 : Nat} {v : Value} {l : List Int} {S : List Nat} (h : BytV W n0 v l) (f : Fr S W W') (hs : ∀ x ∈ S, x < n0) : BytV W' n0 v l :=
  h.fr' f (fun g hg hm => by have := h.2 g hg; have := hs g hm; omega)
/-- What step answers. -/
def StepQ (w : World) (r gF : Nat) (F : List ByteArray) (K : Nat) (fl : Flt) (st : Value → Value) (bl : List Int) (e : Ending) (w' : World) : Prop :=
  ∃ fv bv, e = .returned (.tuple #[if fl.isSome then zeroStep else st bv, fv]) ∧ RPost w r gF F K fl fv w' ∧ BytV w' w.heap.size bv (if fl.isSome then [] else bl)
theorem StepQ.bad {w w' : World} {r gF K : Nat} {F : List ByteArray} {st : Value → Value} {bl : List Int} {q : Nat × Int} {fv : Value} (h : RPost w r gF F K (some q) fv w') : StepQ w r gF F K (some q) st bl (.returned (.tuple #[zeroStep, fv])) w' := ⟨fv, .slice none 0 0, rfl, h, BytV.nil _ _⟩
theorem StepQ.good {w w' : World} {r gF K : Nat} {F : List ByteArray} {st : Value → Value} {bl : List Int} {bv v : Value} (hv : v = st bv) (h : RPost w r gF F K none (.pointer none) w') (hb : BytV w' w.heap.size bv bl) : StepQ w r gF F K none st bl (.returned (.tuple #[v, .pointer none])) w' := ⟨.pointer none, bv, by rw [hv]; rfl, h, hb⟩
theorem BytV.from {W : World} {n0 n1 : Nat} {v : Value} {l : List Int} (h : BytV W n1 v l) (hn : n0 ≤ n1) : BytV W n0 v l := ⟨h.1, fun g hg => Nat.le_trans hn (h.2 g hg)⟩
set_option maxRecDepth 100000 in
set_option maxHeartbeats 4000000 in
theorem step_arr (w : World) (r gF kd kd' K5 : Nat) (sl pl : Int) (f5 : Flt) (F : List ByteArray) (h : RowAt w r gF F 0) (hF : 0 < F.length) (hk : kindN (fld F 0) = kd) (hkd : 5 ≤ kd ∧ kd < 255)
    (hA : ∀ W sb, RowAt W r gF F 1 → Blk W sb (stepC kd 0 0 0 (.slice none 0 0)) 64 → Calls Tryz.prog 63 #[.pointer (some ⟨r, 0, none⟩), .pointer (some ⟨sb, 0, none⟩)] W fun e w' => ∃ fv, e = .returned fv ∧ APost W r gF sb F K5 f5 (stepC kd' 0 sl pl (.slice none 0 0)) fv w') :
    Calls Tryz.prog 36 #[.pointer (some ⟨r, 0, none⟩)] w fun e w' => StepQ w r gF F K5 (thenF f5 (overF F K5)) (fun bv => .agg #[.int .u8 kd', .int .i64 0, .int .i64 sl, .int .i64 pl, bv]) [] e w' := by
  have HX := Lib.hid (fun W (h : RowAt W r gF F 0) => next_any W r gF 0 F h)
  have HV := Lib.hid (fun W (h : RowAt W r gF F K5) => over_any W r gF _ F h)
  have HA := Lib.hid hA
  have HK := Lib.hid (fun W => show Calls Tryz.prog 61 #[.string (fld F 0)] W fun e w' => e = .returned (.int .u8 kd) ∧ Fr [] W w' from by have := kind_any W (fld F 0); rw [hk] at this; exact this)
  have HR := Lib.hid h
  obtain ⟨sb, hsb⟩ : ∃ sb, sb = w.heap.size := ⟨_, rfl⟩
  have HSB := Lib.hid hsb
  have HF := Lib.hid hF
  obtain ⟨fl, hfl⟩ : ∃ fl, fl = thenF f5 (overF F K5) := ⟨_, rfl⟩
  rw [← hfl]
  have HFL := Lib.hid hfl
  have z0 : ((kd : Int) == 0) = false := by rw [beq_eq_false_iff_ne]; omega
  have z1 : ((kd : Int) == 1) = false := by rw [beq_eq_false_iff_ne]; omega
  have z2 : ((kd : Int) == 2) = false := by rw [beq_eq_false_iff_ne]; omega
  have z3 : ((kd : Int) == 3) = false := by rw [beq_eq_false_iff_ne]; omega
  have z4 : ((kd : Int) == 4) = false := by rw [beq_eq_false_iff_ne]; omega
  clear h hk hsb hF hfl hkd hA
  go_enter Tryz.func36, Tryz.ntmps36
  go_wp2_with fail
  rw [← HSB.out]
  (with_reducible refine (HX.out _ (HR.out.fr ((Fr.refl [] _).alloc _) (by simp) (by simp))).mono ?_)
  rintro e w1 ⟨fv, rfl, hp⟩
  rw [nextK, nextF, if_pos HF.out, if_pos HF.out] at hp
  obtain rfl : fv = .pointer none := hp.2.1
  have hb1 : Blk w1 sb #[.int .u8 0, .int .i64 0, .int .i64 0, .int .i64 0, .slice none 0 0] 64 := hp.2.2.blk (Blk.new_at HSB.out _ _) (by have := HR.out.hd.lt; have := HSB.out; simp; omega)
  have HP := Lib.hid (And.intro hp.1 (And.intro hb1 (((Fr.refl [] w).alloc (.cells #[.int .u8 0, .int .i64 0, .int .i64 0, .int .i64 0, .slice none 0 0] 64)).mono (by simp) |>.trans hp.2.2 (fun x hx => .inl hx))))
  clear hp hb1
  rw [show F.getD 0 ⟨#[]⟩ = fld F 0 from rfl]
  generalize fld F 0 = s at HK ⊢
  go_wp2_with fail
  (with_reducible refine (HK.out _).mono ?_)
  rintro e w2 ⟨rfl, f2⟩
  have hb2 := f2.blk HP.out.2.1 (by simp)
  have d0 := hb2.at 0 (v := .int .u8 0) rfl
  have g0 := hb2.free 0
  obtain ⟨w3, hw3⟩ : ∃ w3, (w2.setCell ⟨sb, 0, none⟩ (.int .u8 kd)) = w3 := ⟨_, rfl⟩
  have hb3 : Blk w3 sb #[.int .u8 kd, .int .i64 0, .int .i64 0, .int .i64 0, .slice none 0 0] 64 := by rw [← hw3]; exact hb2.set 0 _
  have f3 : Fr [sb] w2 w3 := by rw [← hw3]; exact (Fr.refl _ _).setCell _ _ (.inl (by simp))
  have hlts := HR.out.lts
  have hz := HSB.out
  have H3 := Lib.hid (show RowAt w3 r gF F 1 ∧ Blk w3 sb _ 64 ∧ Fr [r] w w3 from ⟨(HP.out.1.fr f2 (by simp) (by simp)).fr f3 (by simp; omega) (by simp; omega), hb3, (HP.out.2.2.trans f2 (by simp)).trans f3 (fun x hx => .inr (by simp at hx; omega))⟩)
  have HW3 := Lib.hid hw3
  have c0 := hb3.at 0 (v := .int .u8 kd) rfl
  clear hb2 f2 hw3 hb3 f3 hlts hz
  go_upto_region 3 with fail
  rw [HW3.out]
  clear d0 g0
  go_wp2_with fail
  (with_reducible refine (HA.out _ _ H3.out.1 H3.out.2.1).mono ?_)
  rintro e w5 ⟨fv, rfl, hp⟩
  have H5 := Lib.hid (show RowAt w5 r gF F K5 ∧ Blk w5 sb #[.int .u8 kd', .int .i64 0, .int .i64 sl, .int .i64 pl, .slice none 0 0] 64 ∧ Fr [r] w w5 ∧ BytV w5 w.heap.size (.slice none 0 0) [] from ⟨hp.1, hp.2.2.1, H3.out.2.2.trans hp.2.2.2 (fun x hx => by
    have := HSB.out
    simp only [List.mem_cons, List.not_mem_nil, or_false] at hx
    rcases hx with rfl | rfl
    · exact .inl (by simp)
    · exact .inr (by omega)), BytV.nil _ _⟩)
  have o1 : (Value.int .u8 0).oneCell' = true := rfl
  have o2 : (Value.int .i64 0).oneCell' = true := rfl
  have o3 : (Value.slice none 0 0).oneCell' = true := rfl
  cases hq : f5 with
  | some q =>
    rw [hq] at hp
    obtain ⟨b, rfl, hb, hn⟩ : ∃ b, fv = .pointer (some ⟨b, 0, none⟩) ∧ Blk w5 b #[.int .i64 q.1, .int .i64 q.2] 53 ∧ w.heap.size ≤ b := (by obtain ⟨b, q1, q2, q3⟩ := hp.2.1; exact ⟨b, q1, q2, Nat.le_trans H3.out.2.2.size q3⟩)
    have HB := Lib.hid (And.intro hb hn)
    have hbs : b ≠ sb := hb.ne H5.out.2.1 (by decide)
    have HBS := Lib.hid hbs
    have HE := Lib.hid (show fl = some q by rw [HFL.out, hq]; rfl)
    have q4 : can5 w5 sb = true := H5.out.2.1.can5
    obtain rfl := HE.out
    clear hp hb hn hq hbs
    go_wp2_with fail
    have hlts := HR.out.lts
    have hz := HSB.out
    have hl : Fr [sb] w5 (layS w5 sb (.int .u8 0) (.int .i64 0) (.int .i64 0) (.int .i64 0) (.slice none 0 0)) := (Fr.refl _ _).lay _ _ _ _ _ _ (.inl (by simp))
    refine bodyPost_ret (v := .tuple #[zeroStep, .pointer (some ⟨b, 0, none⟩)]) ?_ rfl (StepQ.bad ?_)
    · exact results_st rfl _ _ sb _ _ rfl rfl (H5.out.2.1.lay _ _ _ _ _).st
    · exact ⟨H5.out.1.fr hl (by simp; omega) (by simp; omega), ⟨b, rfl, hl.blk HB.out.1 (by have := HBS.out; simp; omega), HB.out.2⟩, H5.out.2.2.1.trans hl (fun x hx => .inr (by simp at hx; omega))⟩
  | none =>
    rw [hq] at hp
    obtain rfl : fv = .pointer none := hp.2.1
    have HE := Lib.hid (show fl = overF F K5 by rw [HFL.out, hq]; rfl)
    clear hp hq
    go_wp2_with fail
    (with_reducible refine (HV.out _ H5.out.1).mono ?_)
    rintro e w6 ⟨fv, rfl, hp⟩
    rw [← HE.out] at hp
    have H6 := Lib.hid (show Blk w6 sb _ 64 ∧ Fr [r] w w6 ∧ BytV w6 w.heap.size (.slice none 0 0) [] from ⟨hp.2.2.blk H5.out.2.1 (by have := HR.out.lts; have := HSB.out; simp; omega), H5.out.2.2.1.trans hp.2.2 (fun x hx => .inl hx), H5.out.2.2.2.fr hp.2.2 (fun x hx => by have := HR.out.lts; simp at hx; omega)⟩)
    have HP6 := Lib.hid hp
    have q4 : can5 w6 sb = true := H6.out.1.can5
    have q5 := H6.out.1.st
    have o4 : (Value.int .u8 kd').oneCell' = true := rfl
    have o5 : (Value.int .i64 sl).oneCell' = true := rfl
    have o6 : (Value.int .i64 pl).oneCell' = true := rfl
    cases fl with
    | none =>
      obtain rfl : fv = .pointer none := hp.2.1
      clear hp
      go_wp2_with fail
      have hl : Fr [sb] w6 (layS w6 sb (.int .u8 kd') (.int .i64 0) (.int .i64 sl) (.int .i64 pl) (.slice none 0 0)) := (Fr.refl _ _).lay _ _ _ _ _ _ (.inl (by simp))
      have hlts := HR.out.lts
      have hz := HSB.out
      refine bodyPost_ret (v := .tuple #[.agg #[.int .u8 kd', .int .i64 0, .int .i64 sl, .int .i64 pl, .slice none 0 0], .pointer none]) ?_ rfl (StepQ.good rfl ?_ ?_)
      · exact results_st rfl _ _ sb _ _ rfl rfl (H6.out.1.lay _ _ _ _ _).st
      · exact ⟨HP6.out.1.fr hl (by simp; omega) (by simp; omega), rfl, H6.out.2.1.trans hl (fun x hx => .inr (by simp at hx; omega))⟩
      · exact H6.out.2.2.fr' hl (fun g hg => by simp [Value.ownBlock] at hg)
    | some q =>
      obtain ⟨b, rfl, hb, hn⟩ : ∃ b, fv = .pointer (some ⟨b, 0, none⟩) ∧ Blk w6 b #[.int .i64 q.1, .int .i64 q.2] 53 ∧ w5.heap.size ≤ b := hp.2.1
      have hbs : b ≠ sb := hb.ne H6.out.1 (by decide)
      have HB := Lib.hid (And.intro hb (And.intro hn hbs))
      clear hp hb hn hbs
      go_wp2_with fail
      have hl : Fr [sb] w6 (layS w6 sb (.int .u8 0) (.int .i64 0) (.int .i64 0) (.int .i64 0) (.slice none 0 0)) := (Fr.refl _ _).lay _ _ _ _ _ _ (.inl (by simp))
      have hlts := HR.out.lts
      have hz := HSB.out
      refine bodyPost_ret (v := .tuple #[zeroStep, .pointer (some ⟨b, 0, none⟩)]) ?_ rfl (StepQ.bad ?_)
      · exact results_st rfl _ _ sb _ _ rfl rfl (H6.out.1.lay _ _ _ _ _).st
      · exact ⟨HP6.out.1.fr hl (by simp; omega) (by simp; omega), ⟨b, rfl, hl.blk HB.out.1 (by have := HB.out.2.2; simp; omega), Nat.le_trans H5.out.2.2.1.size HB.out.2.1⟩, H6.out.2.1.trans hl (fun x hx => .inr (by simp at hx; omega))⟩
end Sc
end Go.Proofs.YtbpgpjibljgiiaaGreatDoor
namespace Go.Proofs.YtbpgpjibljgiiaaGreatDoor
open Go.RowKit
set_option linter.unusedVariables false
set_option linter.unusedSimpArgs false
attribute [local go_sem] Oper.semAt_some
namespace Sc
set_option maxRecDepth 100000 in
set_option maxHeartbeats 4000000 in
theorem step_cmd (w : World) (r gF K5 : Nat) (f5 : Flt) (F : List ByteArray) (h : RowAt w r gF F 0) (hF : 0 < F.length) (hk : kindN (fld F 0) = 1) (hFs : ∀ s ∈ F, s.size ≤ 4294967296) (h5 : f5 = bytF F 1) (hK5 : K5 = nextK F 1) :
    Calls Tryz.prog 36 #[.pointer (some ⟨r, 0, none⟩)] w fun e w' => StepQ w r gF F K5 (thenF f5 (overF F K5)) (fun bv => .agg #[.int .u8 1, .int .i64 0, .int .i64 0, .int .i64 0, bv]) (bytN F 1) e w' := by
  have HX := Lib.hid (fun W (h : RowAt W r gF F 0) => next_any W r gF 0 F h)
  have HV := Lib.hid (fun W (h : RowAt W r gF F K5) => over_any W r gF _ F h)
  have HN := Lib.hid (fun W (h : RowAt W r gF F 1) => show Calls Tryz.prog 62 #[.pointer (some ⟨r, 0, none⟩)] W fun e w' => ∃ v fv, e = .returned (.tuple #[v, fv]) ∧ RPost W r gF F K5 f5 fv w' ∧ w'.ownsRow 0 5 1 v (bytN F 1).length (u8s (bytN F 1)) ∧ ∀ g, v.ownBlock = some g → W.heap.size ≤ g from by rw [h5, hK5]; exact bytes_any W r gF 1 F h hFs)
  generalize bytN F 1 = bl at HN ⊢
  have HK := Lib.hid (fun W => show Calls Tryz.prog 61 #[.string (fld F 0)] W fun e w' => e = .returned (.int .u8 1) ∧ Fr [] W w' from by have := kind_any W (fld F 0); rw [hk] at this; exact this)
  have HR := Lib.hid h
  obtain ⟨sb, hsb⟩ : ∃ sb, sb = w.heap.size := ⟨_, rfl⟩
  have HSB := Lib.hid hsb
  have HF := Lib.hid hF
  obtain ⟨fl, hfl⟩ : ∃ fl, fl = thenF f5 (overF F K5) := ⟨_, rfl⟩
  rw [← hfl]
  have HFL := Lib.hid hfl
  clear h hk hsb hF hfl hFs h5 hK5
  go_enter Tryz.func36, Tryz.ntmps36
  go_wp2_with fail
  rw [← HSB.out]
  (with_reducible refine (HX.out _ (HR.out.fr ((Fr.refl [] _).alloc _) (by simp) (by simp))).mono ?_)
  rintro e w1 ⟨fv, rfl, hp⟩
  rw [nextK, nextF, if_pos HF.out, if_pos HF.out] at hp
  obtain rfl : fv = .pointer none := hp.2.1
  have hb1 : Blk w1 sb #[.int .u8 0, .int .i64 0, .int .i64 0, .int .i64 0, .slice none 0 0] 64 := hp.2.2.blk (Blk.new_at HSB.out _ _) (by have := HR.out.hd.lt; have := HSB.out; simp; omega)
  have HP := Lib.hid (And.intro hp.1 (And.intro hb1 (((Fr.refl [] w).alloc (.cells #[.int .u8 0, .int .i64 0, .int .i64 0, .int .i64 0, .slice none 0 0] 64)).mono (by simp) |>.trans hp.2.2 (fun x hx => .inl hx))))
  clear hp hb1
  rw [show F.getD 0 ⟨#[]⟩ = fld F 0 from rfl]
  generalize fld F 0 = s at HK ⊢
  go_wp2_with fail
  (with_reducible refine (HK.out _).mono ?_)
  rintro e w2 ⟨rfl, f2⟩
  have hb2 := f2.blk HP.out.2.1 (by simp)
  have d0 := hb2.at 0 (v := .int .u8 0) rfl
  have g0 := hb2.free 0
  obtain ⟨w3, hw3⟩ : ∃ w3, (w2.setCell ⟨sb, 0, none⟩ (.int .u8 1)) = w3 := ⟨_, rfl⟩
  have hb3 : Blk w3 sb #[.int .u8 1, .int .i64 0, .int .i64 0, .int .i64 0, .slice none 0 0] 64 := by rw [← hw3]; exact hb2.set 0 _
  have f3 : Fr [sb] w2 w3 := by rw [← hw3]; exact (Fr.refl _ _).setCell _ _ (.inl (by simp))
  have hlts := HR.out.lts
  have hz := HSB.out
  have H3 := Lib.hid (show RowAt w3 r gF F 1 ∧ Blk w3 sb _ 64 ∧ Fr [r] w w3 from ⟨(HP.out.1.fr f2 (by simp) (by simp)).fr f3 (by simp; omega) (by simp; omega), hb3, (HP.out.2.2.trans f2 (by simp)).trans f3 (fun x hx => .inr (by simp at hx; omega))⟩)
  have HW3 := Lib.hid hw3
  have c0 := hb3.at 0 (v := .int .u8 1) rfl
  clear hb2 f2 hw3 hb3 f3 hlts hz
  go_upto_region 3 with fail
  rw [HW3.out]
  clear d0 g0
  go_wp2_with fail
  (with_reducible refine (HN.out _ H3.out.1).mono ?_)
  rintro e w4 ⟨bv, fv, rfl, hp, ho, hbg⟩
  obtain ⟨bp, bc, rfl⟩ := own_form ho
  have hlts := HR.out.lts
  have hz := HSB.out
  have hs4 := hp.2.2.blk H3.out.2.1 (by simp; omega)
  have d1 := hs4.at 4 (v := .slice none 0 0) rfl
  have g1 := hs4.free 4
  obtain ⟨w5, hw5⟩ : ∃ w5, (w4.setCell ⟨sb, 4, none⟩ (.slice bp bl.length bc)) = w5 := ⟨_, rfl⟩
  have hs5 : Blk w5 sb #[.int .u8 1, .int .i64 0, .int .i64 0, .int .i64 0, .slice bp bl.length bc] 64 := by rw [← hw5]; exact hs4.set 4 _
  have f5' : Fr [sb] w4 w5 := by rw [← hw5]; exact (Fr.refl _ _).setCell _ _ (.inl (by simp))
  have hbv : BytV w5 w.heap.size (.slice bp bl.length bc) bl := BytV.fr' ⟨ho, fun g hg => Nat.le_trans H3.out.2.2.size (hbg g hg)⟩ f5' (fun g hg hm => own_ne ho hg hs4 (by decide) (by simp at hm; exact hm.symm))
  have H5 := Lib.hid (show RowAt w5 r gF F K5 ∧ Blk w5 sb _ 64 ∧ Fr [r] w w5 ∧ BytV w5 w.heap.size (.slice bp bl.length bc) bl from ⟨hp.1.fr f5' (by simp; omega) (by simp; omega), hs5, (H3.out.2.2.trans hp.2.2 (fun x hx => .inl hx)).trans f5' (fun x hx => .inr (by simp at hx; omega)), hbv⟩)
  have HW5 := Lib.hid hw5
  have HF5 := Lib.hid f5'
  have HS3 := Lib.hid (show sb < w3.heap.size from H3.out.2.1.lt)
  have HS4 := Lib.hid hs4
  have HNE := Lib.hid (show ∀ g, (Value.slice bp bl.length bc).ownBlock = some g → g ≠ sb from fun g hg e => own_ne hbv.1 hg hs5 (by decide) e.symm)
  clear ho hbg hbv hs5 hw5 f5' hs4 hlts hz
  have o1 : (Value.int .u8 0).oneCell' = true := rfl
  have o2 : (Value.int .i64 0).oneCell' = true := rfl
  have o3 : (Value.slice none 0 0).oneCell' = true := rfl
  cases hq : f5 with
  | some q =>
    rw [hq] at hp
    obtain ⟨b, rfl, hb, hn⟩ : ∃ b, fv = .pointer (some ⟨b, 0, none⟩) ∧ Blk w5 b #[.int .i64 q.1, .int .i64 q.2] 53 ∧ w.heap.size ≤ b := (by obtain ⟨b, q1, q2, q3⟩ := hp.2.1; exact ⟨b, q1, HF5.out.blk q2 (by have := q2.ne HS4.out (by decide); simp; omega), Nat.le_trans H3.out.2.2.size q3⟩)
    have HB := Lib.hid (And.intro hb hn)
    have hbs : b ≠ sb := hb.ne H5.out.2.1 (by decide)
    have HBS := Lib.hid hbs
    have HE := Lib.hid (show fl = some q by rw [HFL.out, hq]; rfl)
    have q4 : can5 w5 sb = true := H5.out.2.1.can5
    obtain rfl := HE.out
    clear hp hb hn hq hbs
    go_upto_region 15 with fail
    rw [HW5.out]
    clear d1 g1 c0
    go_wp2_with fail
    have hlts := HR.out.lts
    have hz := HSB.out
    have hl : Fr [sb] w5 (layS w5 sb (.int .u8 0) (.int .i64 0) (.int .i64 0) (.int .i64 0) (.slice none 0 0)) := (Fr.refl _ _).lay _ _ _ _ _ _ (.inl (by simp))
    refine bodyPost_ret (v := .tuple #[zeroStep, .pointer (some ⟨b, 0, none⟩)]) ?_ rfl (StepQ.bad ?_)
    · exact results_st rfl _ _ sb _ _ rfl rfl (H5.out.2.1.lay _ _ _ _ _).st
    · exact ⟨H5.out.1.fr hl (by simp; omega) (by simp; omega), ⟨b, rfl, hl.blk HB.out.1 (by have := HBS.out; simp; omega), HB.out.2⟩, H5.out.2.2.1.trans hl (fun x hx => .inr (by simp at hx; omega))⟩
  | none =>
    rw [hq] at hp
    obtain rfl : fv = .pointer none := hp.2.1
    have HE := Lib.hid (show fl = overF F K5 by rw [HFL.out, hq]; rfl)
    clear hp hq
    go_upto_region 15 with fail
    rw [HW5.out]
    clear d1 g1 c0
    go_wp2_with fail
    (with_reducible refine (HV.out _ H5.out.1).mono ?_)
    rintro e w6 ⟨fv, rfl, hp⟩
    rw [← HE.out] at hp
    have H6 := Lib.hid (show Blk w6 sb _ 64 ∧ Fr [r] w w6 ∧ BytV w6 w.heap.size (.slice bp bl.length bc) bl from ⟨hp.2.2.blk H5.out.2.1 (by have := HR.out.lts; have := HSB.out; simp; omega), H5.out.2.2.1.trans hp.2.2 (fun x hx => .inl hx), H5.out.2.2.2.fr hp.2.2 (fun x hx => by have := HR.out.lts; simp at hx; omega)⟩)
    have HP6 := Lib.hid hp
    have q4 : can5 w6 sb = true := H6.out.1.can5
    have q5 := H6.out.1.st
    have o4 : (Value.int .u8 1).oneCell' = true := rfl
    have o5 : (Value.slice bp bl.length bc).oneCell' = true := rfl
    cases fl with
    | none =>
      obtain rfl : fv = .pointer none := hp.2.1
      clear hp
      go_wp2_with fail
      have hl : Fr [sb] w6 (layS w6 sb (.int .u8 1) (.int .i64 0) (.int .i64 0) (.int .i64 0) (.slice bp bl.length bc)) := (Fr.refl _ _).lay _ _ _ _ _ _ (.inl (by simp))
      have hlts := HR.out.lts
      have hz := HSB.out
      refine bodyPost_ret (v := .tuple #[.agg #[.int .u8 1, .int .i64 0, .int .i64 0, .int .i64 0, .slice bp bl.length bc], .pointer none]) ?_ rfl (StepQ.good rfl ?_ ?_)
      · exact results_st rfl _ _ sb _ _ rfl rfl (H6.out.1.lay _ _ _ _ _).st
      · exact ⟨HP6.out.1.fr hl (by simp; omega) (by simp; omega), rfl, H6.out.2.1.trans hl (fun x hx => .inr (by simp at hx; omega))⟩
      · exact H6.out.2.2.fr' hl (fun g hg => by have := HNE.out g hg; simp; omega)
    | some q =>
      obtain ⟨b, rfl, hb, hn⟩ : ∃ b, fv = .pointer (some ⟨b, 0, none⟩) ∧ Blk w6 b #[.int .i64 q.1, .int .i64 q.2] 53 ∧ w5.heap.size ≤ b := hp.2.1
      have hbs : b ≠ sb := hb.ne H6.out.1 (by decide)
      have HB := Lib.hid (And.intro hb (And.intro hn hbs))
      clear hp hb hn hbs
      go_wp2_with fail
      have hl : Fr [sb] w6 (layS w6 sb (.int .u8 0) (.int .i64 0) (.int .i64 0) (.int .i64 0) (.slice none 0 0)) := (Fr.refl _ _).lay _ _ _ _ _ _ (.inl (by simp))
      have hlts := HR.out.lts
      have hz := HSB.out
      refine bodyPost_ret (v := .tuple #[zeroStep, .pointer (some ⟨b, 0, none⟩)]) ?_ rfl (StepQ.bad ?_)
      · exact results_st rfl _ _ sb _ _ rfl rfl (H6.out.1.lay _ _ _ _ _).st
      · exact ⟨HP6.out.1.fr hl (by simp; omega) (by simp; omega), ⟨b, rfl, hl.blk HB.out.1 (by have := HB.out.2.2; simp; omega), Nat.le_trans H5.out.2.2.1.size HB.out.2.1⟩, H6.out.2.1.trans hl (fun x hx => .inr (by simp at hx; omega))⟩
end Sc
end Go.Proofs.YtbpgpjibljgiiaaGreatDoor
namespace Go.Proofs.YtbpgpjibljgiiaaGreatDoor
open Go.RowKit
set_option linter.unusedVariables false
set_option linter.unusedSimpArgs false
namespace Sc
theorem kindN_cases (x : ByteArray) : kindN x = 0 ∨ kindN x = 1 ∨ kindN x = 2 ∨ kindN x = 3 ∨ kindN x = 4 ∨ kindN x = 5 ∨ kindN x = 6 ∨ kindN x = 7 ∨ kindN x = 9 := by
  unfold kindN
  simp only [kindFrom]
  split
  · simp
  split
  · simp
  split
  · simp
  split
  · simp
  split
  · simp
  split
  · simp
  split
  · simp
  rename_i h7
  split
  · rename_i h8
    exact absurd h8 h7
  split
  · simp
  · simp
/-- A step. -/
structure St where
  kd : Nat
  la : Int
  sl : Int
  pl : Int
  by' : List Int
deriving DecidableEq
def St.cells (s : St) (bv : Value) : List Value := [.int .u8 s.kd, .int .i64 s.la, .int .i64 s.sl, .int .i64 s.pl, bv]
def St.val (s : St) (bv : Value) : Value := .agg #[.int .u8 s.kd, .int .i64 s.la, .int .i64 s.sl, .int .i64 s.pl, bv]
/-- What step answers: the fault, the step, the next field. -/
def stepF (F : List ByteArray) : Flt :=
  match kindN (fld F 0) with
  | 0 => some (0, 280)
  | 1 => thenF (bytF F 1) (overF F (nextK F 1))
  | 2 => thenF (numF F 1) (overF F (nextK F 1))
  | 3 => overF F 1
  | 4 => overF F 1
  | 5 => thenF (twoF F 1) (overF F (twoK F 1))
  | 6 => thenF (twoF F 1) (overF F (twoK F 1))
  | _ => thenF (wayF F 1) (overF F (wayK F 1))
def stepS (F : List ByteArray) : St :=
  match kindN (fld F 0) with
  | 0 => ⟨0, 0, 0, 0, []⟩
  | 1 => ⟨1, 0, 0, 0, bytN F 1⟩
  | 2 => ⟨2, numN F 1, 0, 0, []⟩
  | 3 => ⟨3, 0, 0, 0, []⟩
  | 4 => ⟨4, 0, 0, 0, []⟩
  | 5 => ⟨5, 0, twoS F 1, twoP F 1, []⟩
  | 6 => ⟨6, 0, twoS F 1, twoP F 1, []⟩
  | k => ⟨wayD k F 1, 0, wayS F 1, wayP F 1, []⟩
def stepK (F : List ByteArray) : Nat :=
  match kindN (fld F 0) with
  | 0 => 1
  | 1 => nextK F 1
  | 2 => nextK F 1
  | 3 => 1
  | 4 => 1
  | 5 => twoK F 1
  | 6 => twoK F 1
  | _ => wayK F 1
theorem laneF_then (F : List ByteArray) : laneF F = thenF (numF F 1) (overF F (nextK F 1)) := rfl
theorem StepQ.of {w w' : World} {r gF K : Nat} {F : List ByteArray} {fl : Flt} {st : Value → Value} {bl : List Int} {e : Ending} {v fv : Value} (he : e = .returned (.tuple #[v, fv])) (h : RPost w r gF F K fl fv w') (hv : v = if fl.isSome then zeroStep else st (.slice none 0 0)) (hb : bl = []) : StepQ w r gF F K fl st bl e w' := by
  subst hb
  exact ⟨fv, .slice none 0 0, by rw [he, hv], h, by split <;> exact BytV.nil _ _⟩
theorem step_any (w : World) (r gF : Nat) (F : List ByteArray) (h : RowAt w r gF F 0) (hF : 0 < F.length) (hFs : ∀ s ∈ F, s.size ≤ 4294967296) :
    Calls Tryz.prog 36 #[.pointer (some ⟨r, 0, none⟩)] w fun e w' => StepQ w r gF F (stepK F) (stepF F) (stepS F).val (stepS F).by' e w' := by
  rcases kindN_cases (fld F 0) with hk | hk | hk | hk | hk | hk | hk | hk | hk
  · rw [stepK, stepF, stepS, hk]
    exact (step_none w r gF F h hF hk).mono fun e w' ⟨fv, he, hp⟩ => .of he hp rfl rfl
  · rw [stepK, stepF, stepS, hk]
    exact step_cmd w r gF _ _ F h hF hk hFs rfl rfl
  · rw [stepK, stepF, stepS, hk]
    exact (step_lane w r gF F h hF hk hFs).mono fun e w' ⟨v, fv, he, hp, hv⟩ => .of he hp hv rfl
  · rw [stepK, stepF, stepS, hk]
    exact (step_turn w r gF 3 F h hF hk (.inl rfl)).mono fun e w' ⟨v, fv, he, hp, hv⟩ => .of he hp hv rfl
  · rw [stepK, stepF, stepS, hk]
    exact (step_turn w r gF 4 F h hF hk (.inr rfl)).mono fun e w' ⟨v, fv, he, hp, hv⟩ => .of he hp hv rfl
  · rw [stepK, stepF, stepS, hk]
    exact step_arr w r gF 5 5 _ _ _ _ F h hF hk (by decide) (fun W sb h1 h2 => arr_one W r gF sb 1 5 0 _ F h1 h2 (by decide) hFs rfl)
  · rw [stepK, stepF, stepS, hk]
    exact step_arr w r gF 6 6 _ _ _ _ F h hF hk (by decide) (fun W sb h1 h2 => arr_one W r gF sb 1 6 0 _ F h1 h2 (by decide) hFs rfl)
  · rw [stepK, stepF, stepS, hk]
    exact step_arr w r gF 7 (wayD 7 F 1) _ _ _ _ F h hF hk (by decide) (fun W sb h1 h2 => arr_two W r gF sb 1 7 0 _ F h1 h2 (by decide) hFs rfl)
  · rw [stepK, stepF, stepS, hk]
    exact step_arr w r gF 9 (wayD 9 F 1) _ _ _ _ F h hF hk (by decide) (fun W sb h1 h2 => arr_two W r gF sb 1 9 0 _ F h1 h2 (by decide) hFs rfl)
end Sc
end Go.Proofs.YtbpgpjibljgiiaaGreatDoor
