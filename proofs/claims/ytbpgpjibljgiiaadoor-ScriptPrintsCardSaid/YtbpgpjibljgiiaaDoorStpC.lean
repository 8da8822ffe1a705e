/-
  Script: a step's line: a lane.
-/
import Derived.Test.YtbpgpjibljgiiaaDoorStpB
namespace Go.Proofs.YtbpgpjibljgiiaaDoor
open Go.RowKit
set_option linter.unusedVariables false
set_option linter.unusedSimpArgs false
attribute [local go_sem] Oper.semAt_some
namespace Sc
def laneF (F : List ByteArray) : Flt := if (numF F 1).isSome then numF F 1 else overF F (nextK F 1)
set_option maxRecDepth 100000 in
set_option maxHeartbeats 4000000 in
theorem step_lane (w : World) (r gF : Nat) (F : List ByteArray) (h : RowAt w r gF F 0) (hF : 0 < F.length) (hk : kindN (fld F 0) = 2) (hFs : ∀ s ∈ F, s.size ≤ 4294967296) :
    Calls Tryd.prog 40 #[.pointer (some ⟨r, 0, none⟩)] w fun e w' => ∃ v fv, e = .returned (.tuple #[v, fv]) ∧ RPost w r gF F (nextK F 1) (laneF F) fv w' ∧ v = (if (laneF F).isSome then zeroStep else .agg #[.int .u8 2, .int .i64 (numN F 1), .int .i64 0, .int .i64 0, .slice none 0 0]) := by
  have HX := Lib.hid (fun W (h : RowAt W r gF F 0) => next_any W r gF 0 F h)
  have HV := Lib.hid (fun W (h : RowAt W r gF F (nextK F 1)) => over_any W r gF _ F h)
  have HN := Lib.hid (fun W (h : RowAt W r gF F 1) => number_any W r gF 1 F h hFs)
  have HK := Lib.hid (fun W => show Calls Tryd.prog 63 #[.string (fld F 0)] W fun e w' => e = .returned (.int .u8 2) ∧ Fr [] W w' from by have := kind_any W (fld F 0); rw [hk] at this; exact this)
  have HR := Lib.hid h
  obtain ⟨sb, hsb⟩ : ∃ sb, sb = w.heap.size := ⟨_, rfl⟩
  have HSB := Lib.hid hsb
  have HF := Lib.hid hF
  obtain ⟨fl, hfl⟩ : ∃ fl, fl = laneF F := ⟨_, rfl⟩
  rw [← hfl]
  have HFL := Lib.hid hfl
  clear h hk hsb hF hfl hFs
  go_enter Tryd.func40, Tryd.ntmps40
  go_wp2_with fail
  rw [← HSB.out]
  (with_reducible refine (HX.out _ (HR.out.fr ((Fr.refl [] _).alloc _) (by simp) (by simp))).mono ?_)
  rintro e w1 ⟨fv, rfl, hp⟩
  rw [nextK, nextF, if_pos HF.out, if_pos HF.out] at hp
  obtain rfl : fv = .pointer none := hp.2.1
  have hb1 : Blk w1 sb #[.int .u8 0, .int .i64 0, .int .i64 0, .int .i64 0, .slice none 0 0] 44 := hp.2.2.blk (Blk.new_at HSB.out _ _) (by have := HR.out.hd.lt; have := HSB.out; simp; omega)
  have HP := Lib.hid (And.intro hp.1 (And.intro hb1 (((Fr.refl [] w).alloc (.cells #[.int .u8 0, .int .i64 0, .int .i64 0, .int .i64 0, .slice none 0 0] 44)).mono (by simp) |>.trans hp.2.2 (fun x hx => .inl hx))))
  clear hp hb1
  rw [show F.getD 0 ⟨#[]⟩ = fld F 0 from rfl]
  generalize fld F 0 = s at HK ⊢
  go_wp2_with fail
  (with_reducible refine (HK.out _).mono ?_)
  rintro e w2 ⟨rfl, f2⟩
  have hb2 := f2.blk HP.out.2.1 (by simp)
  have d0 := hb2.at 0 (v := .int .u8 0) rfl
  have g0 := hb2.free 0
  obtain ⟨w3, hw3⟩ : ∃ w3, (w2.setCell ⟨sb, 0, none⟩ (.int .u8 2)) = w3 := ⟨_, rfl⟩
  have hb3 : Blk w3 sb #[.int .u8 2, .int .i64 0, .int .i64 0, .int .i64 0, .slice none 0 0] 44 := by rw [← hw3]; exact hb2.set 0 _
  have f3 : Fr [sb] w2 w3 := by rw [← hw3]; exact (Fr.refl _ _).setCell _ _ (.inl (by simp))
  have hlts := HR.out.lts
  have hz := HSB.out
  have H3 := Lib.hid (show RowAt w3 r gF F 1 ∧ Blk w3 sb _ 44 ∧ Fr [r] w w3 from ⟨(HP.out.1.fr f2 (by simp) (by simp)).fr f3 (by simp; omega) (by simp; omega), hb3, (HP.out.2.2.trans f2 (by simp)).trans f3 (fun x hx => .inr (by simp at hx; omega))⟩)
  have HW3 := Lib.hid hw3
  have c0 := hb3.at 0 (v := .int .u8 2) rfl
  clear hb2 f2 hw3 hb3 f3 hlts hz
  go_upto_region 3 with fail
  rw [HW3.out]
  clear d0 g0
  go_wp2_with fail
  (with_reducible refine (HN.out _ H3.out.1).mono ?_)
  rintro e w4 ⟨fv, rfl, hp⟩
  have hlts := HR.out.lts
  have hz := HSB.out
  have hs4 := hp.2.2.blk H3.out.2.1 (by simp; omega)
  have d1 := hs4.at 1 (v := .int .i64 0) rfl
  have g1 := hs4.free 1
  obtain ⟨w5, hw5⟩ : ∃ w5, (w4.setCell ⟨sb, 1, none⟩ (.int .i64 (numN F 1))) = w5 := ⟨_, rfl⟩
  have hs5 : Blk w5 sb #[.int .u8 2, .int .i64 (numN F 1), .int .i64 0, .int .i64 0, .slice none 0 0] 44 := by rw [← hw5]; exact hs4.set 1 _
  have f5 : Fr [sb] w4 w5 := by rw [← hw5]; exact (Fr.refl _ _).setCell _ _ (.inl (by simp))
  have H5 := Lib.hid (show RowAt w5 r gF F (nextK F 1) ∧ Blk w5 sb _ 44 ∧ Fr [r] w w5 from ⟨hp.1.fr f5 (by simp; omega) (by simp; omega), hs5, (H3.out.2.2.trans hp.2.2 (fun x hx => .inl hx)).trans f5 (fun x hx => .inr (by simp at hx; omega))⟩)
  have HW5 := Lib.hid hw5
  have o1 : (Value.int .u8 0).oneCell' = true := rfl
  have o2 : (Value.int .i64 0).oneCell' = true := rfl
  have o3 : (Value.slice none 0 0).oneCell' = true := rfl
  have hsl : sb < w3.heap.size := H3.out.2.1.lt
  cases hq : numF F 1 with
  | some q =>
    rw [hq] at hp
    obtain ⟨b, rfl, hb, hn⟩ : ∃ b, fv = .pointer (some ⟨b, 0, none⟩) ∧ Blk w4 b #[.int .i64 q.1, .int .i64 q.2] 66 ∧ w3.heap.size ≤ b := hp.2.1
    have HB := Lib.hid (And.intro (f5.blk hb (by simp; omega)) hn)
    have HE := Lib.hid (show fl = some q by rw [HFL.out]; unfold laneF; rw [hq]; rfl)
    have q4 : can5 w5 sb = true := hs5.can5
    obtain rfl := HE.out
    clear hp hb hn hq hw5 hs5 f5 hs4 hz hlts
    go_upto_region 15 with fail
    rw [HW5.out]
    clear d1 g1 c0
    go_wp2_with fail
    have hlts := HR.out.lts
    have hz := HSB.out
    have hl : Fr [sb] w5 (layS w5 sb (.int .u8 0) (.int .i64 0) (.int .i64 0) (.int .i64 0) (.slice none 0 0)) := (Fr.refl _ _).lay _ _ _ _ _ _ (.inl (by simp))
    refine bodyPost_ret (v := .tuple #[zeroStep, .pointer (some ⟨b, 0, none⟩)]) ?_ rfl ⟨_, _, rfl, ?_, rfl⟩
    · exact results_st rfl _ _ sb _ _ rfl rfl (H5.out.2.1.lay _ _ _ _ _).st
    · exact ⟨H5.out.1.fr hl (by simp; omega) (by simp; omega), ⟨b, rfl, hl.blk HB.out.1 (by have := HB.out.2; simp; omega), Nat.le_trans H3.out.2.2.size HB.out.2⟩, H5.out.2.2.trans hl (fun x hx => .inr (by simp at hx; omega))⟩
  | none =>
    rw [hq] at hp
    obtain rfl : fv = .pointer none := hp.2.1
    have HE := Lib.hid (show fl = overF F (nextK F 1) by rw [HFL.out]; unfold laneF; rw [hq]; rfl)
    clear hp hq hw5 hs5 f5 hs4 hz hlts
    go_upto_region 15 with fail
    rw [HW5.out]
    clear d1 g1 c0
    go_wp2_with fail
    (with_reducible refine (HV.out _ H5.out.1).mono ?_)
    rintro e w6 ⟨fv, rfl, hp⟩
    rw [← HE.out] at hp
    have H6 := Lib.hid (show Blk w6 sb _ 44 ∧ Fr [r] w w6 from ⟨hp.2.2.blk H5.out.2.1 (by have := HR.out.lts; have := HSB.out; simp; omega), H5.out.2.2.trans hp.2.2 (fun x hx => .inl hx)⟩)
    have HP6 := Lib.hid hp
    have q4 : can5 w6 sb = true := H6.out.1.can5
    have q5 := H6.out.1.st
    have o4 : (Value.int .u8 2).oneCell' = true := rfl
    have o5 : (Value.int .i64 (numN F 1)).oneCell' = true := rfl
    have HS5 := Lib.hid (show sb < w5.heap.size from H5.out.2.1.lt)
    clear hsl
    cases fl with
    | none =>
      obtain rfl : fv = .pointer none := hp.2.1
      clear hp
      go_wp2_with fail
      have hl : Fr [sb] w6 (layS w6 sb (.int .u8 2) (.int .i64 (numN F 1)) (.int .i64 0) (.int .i64 0) (.slice none 0 0)) := (Fr.refl _ _).lay _ _ _ _ _ _ (.inl (by simp))
      have hlts := HR.out.lts
      have hz := HSB.out
      refine bodyPost_ret (v := .tuple #[.agg #[.int .u8 2, .int .i64 (numN F 1), .int .i64 0, .int .i64 0, .slice none 0 0], .pointer none]) ?_ rfl ⟨_, _, rfl, ?_, rfl⟩
      · exact results_st rfl _ _ sb _ _ rfl rfl (H6.out.1.lay _ _ _ _ _).st
      · exact ⟨HP6.out.1.fr hl (by simp; omega) (by simp; omega), rfl, H6.out.2.trans hl (fun x hx => .inr (by simp at hx; omega))⟩
    | some q =>
      obtain ⟨b, rfl, hb, hn⟩ : ∃ b, fv = .pointer (some ⟨b, 0, none⟩) ∧ Blk w6 b #[.int .i64 q.1, .int .i64 q.2] 66 ∧ w5.heap.size ≤ b := hp.2.1
      have HB := Lib.hid (And.intro hb hn)
      clear hp hb hn
      go_wp2_with fail
      have hl : Fr [sb] w6 (layS w6 sb (.int .u8 0) (.int .i64 0) (.int .i64 0) (.int .i64 0) (.slice none 0 0)) := (Fr.refl _ _).lay _ _ _ _ _ _ (.inl (by simp))
      have hlts := HR.out.lts
      have hz := HSB.out
      refine bodyPost_ret (v := .tuple #[zeroStep, .pointer (some ⟨b, 0, none⟩)]) ?_ rfl ⟨_, _, rfl, ?_, rfl⟩
      · exact results_st rfl _ _ sb _ _ rfl rfl (H6.out.1.lay _ _ _ _ _).st
      · exact ⟨HP6.out.1.fr hl (by simp; omega) (by simp; omega), ⟨b, rfl, hl.blk HB.out.1 (by have := HB.out.2; have := HS5.out; simp; omega), Nat.le_trans H5.out.2.2.size HB.out.2⟩, H6.out.2.trans hl (fun x hx => .inr (by simp at hx; omega))⟩
end Sc
end Go.Proofs.YtbpgpjibljgiiaaDoor
