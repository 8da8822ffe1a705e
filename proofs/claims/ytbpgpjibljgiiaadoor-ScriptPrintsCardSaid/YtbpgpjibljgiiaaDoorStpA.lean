/-
  Script: a step's line that begins with no kind's word.
-/
import Derived.Test.YtbpgpjibljgiiaaDoorArrB
import Derived.Test.YtbpgpjibljgiiaaDoorStK
namespace Go.Proofs.YtbpgpjibljgiiaaDoor
open Go.RowKit
set_option linter.unusedVariables false
set_option linter.unusedSimpArgs false
attribute [local go_sem] Oper.semAt_some
namespace Sc
theorem RowAt.lts {W : World} {r gF k : Nat} {F : List ByteArray} (h : RowAt W r gF F k) : r < W.heap.size ∧ gF < W.heap.size := ⟨h.hd.lt, h.fs.lt⟩
def zeroStep : Value := .agg #[.int .u8 0, .int .i64 0, .int .i64 0, .int .i64 0, .slice none 0 0]
set_option maxRecDepth 100000 in
set_option maxHeartbeats 4000000 in
theorem step_none (w : World) (r gF : Nat) (F : List ByteArray) (h : RowAt w r gF F 0) (hF : 0 < F.length) (hk : kindN (fld F 0) = 0) :
    Calls Tryd.prog 40 #[.pointer (some ⟨r, 0, none⟩)] w fun e w' => ∃ fv, e = .returned (.tuple #[zeroStep, fv]) ∧ RPost w r gF F 1 (some (0, 280)) fv w' := by
  have HX := Lib.hid (fun W (h : RowAt W r gF F 0) => next_any W r gF 0 F h)
  have HK := Lib.hid (fun W => show Calls Tryd.prog 63 #[.string (fld F 0)] W fun e w' => e = .returned (.int .u8 0) ∧ Fr [] W w' from by have := kind_any W (fld F 0); rw [hk] at this; exact this)
  have HR := Lib.hid h
  obtain ⟨sb, hsb⟩ : ∃ sb, sb = w.heap.size := ⟨_, rfl⟩
  have HSB := Lib.hid hsb
  have HF := Lib.hid hF
  clear h hk hsb hF
  go_enter Tryd.func40, Tryd.ntmps40
  go_wp2_with fail
  rw [← HSB.out]
  (with_reducible refine (HX.out _ (HR.out.fr ((Fr.refl [] _).alloc _) (by simp) (by simp))).mono ?_)
  rintro e w1 ⟨fv, rfl, hp⟩
  rw [nextK, nextF, if_pos HF.out, if_pos HF.out] at hp
  obtain rfl : fv = .pointer none := hp.2.1
  have hb1 : Blk w1 sb #[.int .u8 0, .int .i64 0, .int .i64 0, .int .i64 0, .slice none 0 0] 44 := hp.2.2.blk (Blk.new_at HSB.out _ _) (by have := HR.out.hd.lt; have := HSB.out; simp; omega)
  have HP := Lib.hid (And.intro hp.1 (And.intro hb1 (((Fr.refl [] w).alloc (.cells #[.int .u8 0, .int .i64 0, .int .i64 0, .int .i64 0, .slice none 0 0] 44)).mono (by simp) |>.trans hp.2.2 (fun x hx => .inl hx))))
  clear hp hb1
  rw [show F.getD 0 ⟨#[]⟩ = fld F 0 from rfl]
  generalize fld F 0 = s at HK ⊢
  go_wp2_with fail
  (with_reducible refine (HK.out _).mono ?_)
  rintro e w2 ⟨rfl, f2⟩
  have hb2 := f2.blk HP.out.2.1 (by simp)
  have d0 := hb2.at 0 (v := .int .u8 0) rfl
  have g0 := hb2.free 0
  obtain ⟨w3, hw3⟩ : ∃ w3, (w2.setCell ⟨sb, 0, none⟩ (.int .u8 0)) = w3 := ⟨_, rfl⟩
  have hb3 : Blk w3 sb #[.int .u8 0, .int .i64 0, .int .i64 0, .int .i64 0, .slice none 0 0] 44 := by rw [← hw3]; exact hb2.set 0 _
  have f3 : Fr [sb] w2 w3 := by rw [← hw3]; exact (Fr.refl _ _).setCell _ _ (.inl (by simp))
  have H3 := Lib.hid (And.intro hb3 (And.intro f2 f3))
  have HW3 := Lib.hid hw3
  have c0 := hb3.at 0 (v := .int .u8 0) rfl
  clear hb2 f2 hw3 hb3 f3
  go_upto_region 3 with fail
  rw [HW3.out]
  clear d0 g0
  have q4 : can5 (w3.alloc (.cells #[.int .i64 0, .int .i64 280] 66)) sb = true := Blk.can5 (H3.out.1.alloc _)
  have o1 : (Value.int .u8 0).oneCell' = true := rfl
  have o2 : (Value.int .i64 0).oneCell' = true := rfl
  have o3 : (Value.slice none 0 0).oneCell' = true := rfl
  obtain ⟨w5, hw5⟩ : ∃ w5, layS (w3.alloc (.cells #[.int .i64 0, .int .i64 280] 66)) sb (.int .u8 0) (.int .i64 0) (.int .i64 0) (.int .i64 0) (.slice none 0 0) = w5 := ⟨_, rfl⟩
  have hb5 : Blk w5 sb #[.int .u8 0, .int .i64 0, .int .i64 0, .int .i64 0, .slice none 0 0] 44 := by rw [← hw5]; exact Blk.lay (H3.out.1.alloc _) _ _ _ _ _
  have hlt : sb < w3.heap.size := H3.out.1.lt
  have hf5 : Fr [sb] w3 w5 := by rw [← hw5]; exact ((Fr.refl _ _).alloc _).lay _ _ _ _ _ _ (.inl (by simp))
  have hfb : Blk w5 w3.heap.size #[.int .i64 0, .int .i64 280] 66 := by
    rw [← hw5]
    exact (((((Blk.new w3 _ 66).other _ _ (by simp; omega)).other _ _ (by simp; omega)).other _ _ (by simp; omega)).other _ _ (by simp; omega)).other _ _ (by simp; omega)
  have H5 := Lib.hid (And.intro hb5 (And.intro hf5 hfb))
  have HW5 := Lib.hid hw5
  clear hb5 hlt hf5 hfb hw5
  go_wp2_with fail
  rw [HW5.out]
  refine bodyPost_ret (v := .tuple #[zeroStep, .pointer (some ⟨w3.heap.size, 0, none⟩)]) ?_ rfl ⟨_, rfl, ?_, ⟨_, rfl, H5.out.2.2, ?_⟩, ?_⟩
  · exact results_st rfl _ _ sb _ _ rfl rfl (H5.out.1.st)
  · have hr := HR.out.lts
    have hz := HSB.out
    exact ((HP.out.1.fr H3.out.2.1 (by simp) (by simp)).fr H3.out.2.2 (by simp; omega) (by simp; omega)).fr H5.out.2.1 (by simp; omega) (by simp; omega)
  · have := HP.out.2.2.size
    have := H3.out.2.1.size
    have := H3.out.2.2.size
    omega
  · have hz := HSB.out
    exact ((HP.out.2.2.trans H3.out.2.1 (by simp)).trans H3.out.2.2 (fun x hx => .inr (by simp at hx; omega))).trans H5.out.2.1 (fun x hx => .inr (by simp at hx; omega))
end Sc
end Go.Proofs.YtbpgpjibljgiiaaDoor
