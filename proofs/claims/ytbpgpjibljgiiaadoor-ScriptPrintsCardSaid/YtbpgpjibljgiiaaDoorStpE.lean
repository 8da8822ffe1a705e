/-
  Script: a step's line: a command. Printed by genSt.py.
-/
import Derived.Test.YtbpgpjibljgiiaaDoorStpD
namespace Go.Proofs.YtbpgpjibljgiiaaDoor
open Go.RowKit
set_option linter.unusedVariables false
set_option linter.unusedSimpArgs false
attribute [local go_sem] Oper.semAt_some
namespace Sc
set_option maxRecDepth 100000 in
set_option maxHeartbeats 4000000 in
theorem step_cmd (w : World) (r gF K5 : Nat) (f5 : Flt) (F : List ByteArray) (h : RowAt w r gF F 0) (hF : 0 < F.length) (hk : kindN (fld F 0) = 1) (hFs : ∀ s ∈ F, s.size ≤ 4294967296) (h5 : f5 = bytF F 1) (hK5 : K5 = nextK F 1) :
    Calls Tryd.prog 40 #[.pointer (some ⟨r, 0, none⟩)] w fun e w' => StepQ w r gF F K5 (thenF f5 (overF F K5)) (fun bv => .agg #[.int .u8 1, .int .i64 0, .int .i64 0, .int .i64 0, bv]) (bytN F 1) e w' := by
  have HX := Lib.hid (fun W (h : RowAt W r gF F 0) => next_any W r gF 0 F h)
  have HV := Lib.hid (fun W (h : RowAt W r gF F K5) => over_any W r gF _ F h)
  have HN := Lib.hid (fun W (h : RowAt W r gF F 1) => show Calls Tryd.prog 64 #[.pointer (some ⟨r, 0, none⟩)] W fun e w' => ∃ v fv, e = .returned (.tuple #[v, fv]) ∧ RPost W r gF F K5 f5 fv w' ∧ w'.ownsRow 0 5 1 v (bytN F 1).length (u8s (bytN F 1)) ∧ ∀ g, v.ownBlock = some g → W.heap.size ≤ g from by rw [h5, hK5]; exact bytes_any W r gF 1 F h hFs)
  generalize bytN F 1 = bl at HN ⊢
  have HK := Lib.hid (fun W => show Calls Tryd.prog 63 #[.string (fld F 0)] W fun e w' => e = .returned (.int .u8 1) ∧ Fr [] W w' from by have := kind_any W (fld F 0); rw [hk] at this; exact this)
  have HR := Lib.hid h
  obtain ⟨sb, hsb⟩ : ∃ sb, sb = w.heap.size := ⟨_, rfl⟩
  have HSB := Lib.hid hsb
  have HF := Lib.hid hF
  obtain ⟨fl, hfl⟩ : ∃ fl, fl = thenF f5 (overF F K5) := ⟨_, rfl⟩
  rw [← hfl]
  have HFL := Lib.hid hfl
  clear h hk hsb hF hfl hFs h5 hK5
  go_enter Tryd.func40, Tryd.ntmps40
  go_wp2_with fail
  rw [← HSB.out]
  (with_reducible refine (HX.out _ (HR.out.fr ((Fr.refl [] _).alloc _) (by simp) (by simp))).mono ?_)
  rintro e w1 ⟨fv, rfl, hp⟩
  rw [nextK, nextF, if_pos HF.out, if_pos HF.out] at hp
  obtain rfl : fv = .pointer none := hp.2.1
  have hb1 : Blk w1 sb #[.int .u8 0, .int .i64 0, .int .i64 0, .int .i64 0, .slice none 0 0] 44 := hp.2.2.blk (Blk.new_at HSB.out _ _) (by have := HR.out.hd.lt; have := HSB.out; simp; omega)
  have HP := Lib.hid (And.intro hp.1 (And.intro hb1 (((Fr.refl [] w).alloc (.cells #[.int .u8 0, .int .i64 0, .int .i64 0, .int .i64 0, .slice none 0 0] 44)).mono (by simp) |>.trans hp.2.2 (fun x hx => .inl hx))))
  clear hp hb1
  rw [show F.getD 0 ⟨#[]⟩ = fld F 0 from rfl]
  generalize fld F 0 = s at HK ⊢
  go_wp2_with fail
  (with_reducible refine (HK.out _).mono ?_)
  rintro e w2 ⟨rfl, f2⟩
  have hb2 := f2.blk HP.out.2.1 (by simp)
  have d0 := hb2.at 0 (v := .int .u8 0) rfl
  have g0 := hb2.free 0
  obtain ⟨w3, hw3⟩ : ∃ w3, (w2.setCell ⟨sb, 0, none⟩ (.int .u8 1)) = w3 := ⟨_, rfl⟩
  have hb3 : Blk w3 sb #[.int .u8 1, .int .i64 0, .int .i64 0, .int .i64 0, .slice none 0 0] 44 := by rw [← hw3]; exact hb2.set 0 _
  have f3 : Fr [sb] w2 w3 := by rw [← hw3]; exact (Fr.refl _ _).setCell _ _ (.inl (by simp))
  have hlts := HR.out.lts
  have hz := HSB.out
  have H3 := Lib.hid (show RowAt w3 r gF F 1 ∧ Blk w3 sb _ 44 ∧ Fr [r] w w3 from ⟨(HP.out.1.fr f2 (by simp) (by simp)).fr f3 (by simp; omega) (by simp; omega), hb3, (HP.out.2.2.trans f2 (by simp)).trans f3 (fun x hx => .inr (by simp at hx; omega))⟩)
  have HW3 := Lib.hid hw3
  have c0 := hb3.at 0 (v := .int .u8 1) rfl
  clear hb2 f2 hw3 hb3 f3 hlts hz
  go_upto_region 3 with fail
  rw [HW3.out]
  clear d0 g0
  go_wp2_with fail
  (with_reducible refine (HN.out _ H3.out.1).mono ?_)
  rintro e w4 ⟨bv, fv, rfl, hp, ho, hbg⟩
  obtain ⟨bp, bc, rfl⟩ := own_form ho
  have hlts := HR.out.lts
  have hz := HSB.out
  have hs4 := hp.2.2.blk H3.out.2.1 (by simp; omega)
  have d1 := hs4.at 4 (v := .slice none 0 0) rfl
  have g1 := hs4.free 4
  obtain ⟨w5, hw5⟩ : ∃ w5, (w4.setCell ⟨sb, 4, none⟩ (.slice bp bl.length bc)) = w5 := ⟨_, rfl⟩
  have hs5 : Blk w5 sb #[.int .u8 1, .int .i64 0, .int .i64 0, .int .i64 0, .slice bp bl.length bc] 44 := by rw [← hw5]; exact hs4.set 4 _
  have f5' : Fr [sb] w4 w5 := by rw [← hw5]; exact (Fr.refl _ _).setCell _ _ (.inl (by simp))
  have hbv : BytV w5 w.heap.size (.slice bp bl.length bc) bl := BytV.fr' ⟨ho, fun g hg => Nat.le_trans H3.out.2.2.size (hbg g hg)⟩ f5' (fun g hg hm => own_ne ho hg hs4 (by decide) (by simp at hm; exact hm.symm))
  have H5 := Lib.hid (show RowAt w5 r gF F K5 ∧ Blk w5 sb _ 44 ∧ Fr [r] w w5 ∧ BytV w5 w.heap.size (.slice bp bl.length bc) bl from ⟨hp.1.fr f5' (by simp; omega) (by simp; omega), hs5, (H3.out.2.2.trans hp.2.2 (fun x hx => .inl hx)).trans f5' (fun x hx => .inr (by simp at hx; omega)), hbv⟩)
  have HW5 := Lib.hid hw5
  have HF5 := Lib.hid f5'
  have HS3 := Lib.hid (show sb < w3.heap.size from H3.out.2.1.lt)
  have HS4 := Lib.hid hs4
  have HNE := Lib.hid (show ∀ g, (Value.slice bp bl.length bc).ownBlock = some g → g ≠ sb from fun g hg e => own_ne hbv.1 hg hs5 (by decide) e.symm)
  clear ho hbg hbv hs5 hw5 f5' hs4 hlts hz
  have o1 : (Value.int .u8 0).oneCell' = true := rfl
  have o2 : (Value.int .i64 0).oneCell' = true := rfl
  have o3 : (Value.slice none 0 0).oneCell' = true := rfl
  cases hq : f5 with
  | some q =>
    rw [hq] at hp
    obtain ⟨b, rfl, hb, hn⟩ : ∃ b, fv = .pointer (some ⟨b, 0, none⟩) ∧ Blk w5 b #[.int .i64 q.1, .int .i64 q.2] 66 ∧ w.heap.size ≤ b := (by obtain ⟨b, q1, q2, q3⟩ := hp.2.1; exact ⟨b, q1, HF5.out.blk q2 (by have := q2.ne HS4.out (by decide); simp; omega), Nat.le_trans H3.out.2.2.size q3⟩)
    have HB := Lib.hid (And.intro hb hn)
    have hbs : b ≠ sb := hb.ne H5.out.2.1 (by decide)
    have HBS := Lib.hid hbs
    have HE := Lib.hid (show fl = some q by rw [HFL.out, hq]; rfl)
    have q4 : can5 w5 sb = true := H5.out.2.1.can5
    obtain rfl := HE.out
    clear hp hb hn hq hbs
    go_upto_region 15 with fail
    rw [HW5.out]
    clear d1 g1 c0
    go_wp2_with fail
    have hlts := HR.out.lts
    have hz := HSB.out
    have hl : Fr [sb] w5 (layS w5 sb (.int .u8 0) (.int .i64 0) (.int .i64 0) (.int .i64 0) (.slice none 0 0)) := (Fr.refl _ _).lay _ _ _ _ _ _ (.inl (by simp))
    refine bodyPost_ret (v := .tuple #[zeroStep, .pointer (some ⟨b, 0, none⟩)]) ?_ rfl (StepQ.bad ?_)
    · exact results_st rfl _ _ sb _ _ rfl rfl (H5.out.2.1.lay _ _ _ _ _).st
    · exact ⟨H5.out.1.fr hl (by simp; omega) (by simp; omega), ⟨b, rfl, hl.blk HB.out.1 (by have := HBS.out; simp; omega), HB.out.2⟩, H5.out.2.2.1.trans hl (fun x hx => .inr (by simp at hx; omega))⟩
  | none =>
    rw [hq] at hp
    obtain rfl : fv = .pointer none := hp.2.1
    have HE := Lib.hid (show fl = overF F K5 by rw [HFL.out, hq]; rfl)
    clear hp hq
    go_upto_region 15 with fail
    rw [HW5.out]
    clear d1 g1 c0
    go_wp2_with fail
    (with_reducible refine (HV.out _ H5.out.1).mono ?_)
    rintro e w6 ⟨fv, rfl, hp⟩
    rw [← HE.out] at hp
    have H6 := Lib.hid (show Blk w6 sb _ 44 ∧ Fr [r] w w6 ∧ BytV w6 w.heap.size (.slice bp bl.length bc) bl from ⟨hp.2.2.blk H5.out.2.1 (by have := HR.out.lts; have := HSB.out; simp; omega), H5.out.2.2.1.trans hp.2.2 (fun x hx => .inl hx), H5.out.2.2.2.fr hp.2.2 (fun x hx => by have := HR.out.lts; simp at hx; omega)⟩)
    have HP6 := Lib.hid hp
    have q4 : can5 w6 sb = true := H6.out.1.can5
    have q5 := H6.out.1.st
    have o4 : (Value.int .u8 1).oneCell' = true := rfl
    have o5 : (Value.slice bp bl.length bc).oneCell' = true := rfl
    cases fl with
    | none =>
      obtain rfl : fv = .pointer none := hp.2.1
      clear hp
      go_wp2_with fail
      have hl : Fr [sb] w6 (layS w6 sb (.int .u8 1) (.int .i64 0) (.int .i64 0) (.int .i64 0) (.slice bp bl.length bc)) := (Fr.refl _ _).lay _ _ _ _ _ _ (.inl (by simp))
      have hlts := HR.out.lts
      have hz := HSB.out
      refine bodyPost_ret (v := .tuple #[.agg #[.int .u8 1, .int .i64 0, .int .i64 0, .int .i64 0, .slice bp bl.length bc], .pointer none]) ?_ rfl (StepQ.good rfl ?_ ?_)
      · exact results_st rfl _ _ sb _ _ rfl rfl (H6.out.1.lay _ _ _ _ _).st
      · exact ⟨HP6.out.1.fr hl (by simp; omega) (by simp; omega), rfl, H6.out.2.1.trans hl (fun x hx => .inr (by simp at hx; omega))⟩
      · exact H6.out.2.2.fr' hl (fun g hg => by have := HNE.out g hg; simp; omega)
    | some q =>
      obtain ⟨b, rfl, hb, hn⟩ : ∃ b, fv = .pointer (some ⟨b, 0, none⟩) ∧ Blk w6 b #[.int .i64 q.1, .int .i64 q.2] 66 ∧ w5.heap.size ≤ b := hp.2.1
      have hbs : b ≠ sb := hb.ne H6.out.1 (by decide)
      have HB := Lib.hid (And.intro hb (And.intro hn hbs))
      clear hp hb hn hbs
      go_wp2_with fail
      have hl : Fr [sb] w6 (layS w6 sb (.int .u8 0) (.int .i64 0) (.int .i64 0) (.int .i64 0) (.slice none 0 0)) := (Fr.refl _ _).lay _ _ _ _ _ _ (.inl (by simp))
      have hlts := HR.out.lts
      have hz := HSB.out
      refine bodyPost_ret (v := .tuple #[zeroStep, .pointer (some ⟨b, 0, none⟩)]) ?_ rfl (StepQ.bad ?_)
      · exact results_st rfl _ _ sb _ _ rfl rfl (H6.out.1.lay _ _ _ _ _).st
      · exact ⟨HP6.out.1.fr hl (by simp; omega) (by simp; omega), ⟨b, rfl, hl.blk HB.out.1 (by have := HB.out.2.2; simp; omega), Nat.le_trans H5.out.2.2.1.size HB.out.2.1⟩, H6.out.2.1.trans hl (fun x hx => .inr (by simp at hx; omega))⟩
end Sc
end Go.Proofs.YtbpgpjibljgiiaaDoor
