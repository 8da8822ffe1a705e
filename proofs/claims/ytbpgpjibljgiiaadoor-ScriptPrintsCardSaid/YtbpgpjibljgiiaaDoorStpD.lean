/-
  Script: a step's line: the arrivals. Printed by genSt.py.
-/
import Derived.Test.YtbpgpjibljgiiaaDoorStpC
namespace Go.Proofs.YtbpgpjibljgiiaaDoor
open Go.RowKit
set_option linter.unusedVariables false
set_option linter.unusedSimpArgs false
attribute [local go_sem] Oper.semAt_some
namespace Sc
/-- A fault, or the next one. -/
def thenF (f g : Flt) : Flt := if f.isSome then f else g
/-- A list of bytes that lies in memory of its own. -/
def BytV (W : World) (n0 : Nat) (v : Value) (l : List Int) : Prop := W.ownsRow 0 5 1 v l.length (u8s l) ∧ ∀ g, v.ownBlock = some g → n0 ≤ g
theorem BytV.nil (W : World) (n0 : Nat) : BytV W n0 (.slice none 0 0) [] := ⟨World.ownsRow_nil _ _ _ _, by simp [Value.ownBlock]⟩
theorem BytV.fr' {W W' : World} {n0 : Nat} {v : Value} {l : List Int} {S : List Nat} (h : BytV W n0 v l) (f : Fr S W W') (hs : ∀ g, v.ownBlock = some g → g ∉ S) : BytV W' n0 v l := ⟨own_fr h.1 f hs, h.2⟩
theorem BytV.fr {W W' : World} {n0 : Nat} {v : Value} {l : List Int} {S : List Nat} (h : BytV W n0 v l) (f : Fr S W W') (hs : ∀ x ∈ S, x < n0) : BytV W' n0 v l :=
  h.fr' f (fun g hg hm => by have := h.2 g hg; have := hs g hm; omega)
/-- What step answers. -/
def StepQ (w : World) (r gF : Nat) (F : List ByteArray) (K : Nat) (fl : Flt) (st : Value → Value) (bl : List Int) (e : Ending) (w' : World) : Prop :=
  ∃ fv bv, e = .returned (.tuple #[if fl.isSome then zeroStep else st bv, fv]) ∧ RPost w r gF F K fl fv w' ∧ BytV w' w.heap.size bv (if fl.isSome then [] else bl)
theorem StepQ.bad {w w' : World} {r gF K : Nat} {F : List ByteArray} {st : Value → Value} {bl : List Int} {q : Nat × Int} {fv : Value} (h : RPost w r gF F K (some q) fv w') : StepQ w r gF F K (some q) st bl (.returned (.tuple #[zeroStep, fv])) w' := ⟨fv, .slice none 0 0, rfl, h, BytV.nil _ _⟩
theorem StepQ.good {w w' : World} {r gF K : Nat} {F : List ByteArray} {st : Value → Value} {bl : List Int} {bv v : Value} (hv : v = st bv) (h : RPost w r gF F K none (.pointer none) w') (hb : BytV w' w.heap.size bv bl) : StepQ w r gF F K none st bl (.returned (.tuple #[v, .pointer none])) w' := ⟨.pointer none, bv, by rw [hv]; rfl, h, hb⟩
theorem BytV.from {W : World} {n0 n1 : Nat} {v : Value} {l : List Int} (h : BytV W n1 v l) (hn : n0 ≤ n1) : BytV W n0 v l := ⟨h.1, fun g hg => Nat.le_trans hn (h.2 g hg)⟩
set_option maxRecDepth 100000 in
set_option maxHeartbeats 4000000 in
theorem step_arr (w : World) (r gF kd kd' K5 : Nat) (sl pl : Int) (f5 : Flt) (F : List ByteArray) (h : RowAt w r gF F 0) (hF : 0 < F.length) (hk : kindN (fld F 0) = kd) (hkd : 5 ≤ kd ∧ kd < 255)
    (hA : ∀ W sb, RowAt W r gF F 1 → Blk W sb (stepC kd 0 0 0 (.slice none 0 0)) 44 → Calls Tryd.prog 65 #[.pointer (some ⟨r, 0, none⟩), .pointer (some ⟨sb, 0, none⟩)] W fun e w' => ∃ fv, e = .returned fv ∧ APost W r gF sb F K5 f5 (stepC kd' 0 sl pl (.slice none 0 0)) fv w') :
    Calls Tryd.prog 40 #[.pointer (some ⟨r, 0, none⟩)] w fun e w' => StepQ w r gF F K5 (thenF f5 (overF F K5)) (fun bv => .agg #[.int .u8 kd', .int .i64 0, .int .i64 sl, .int .i64 pl, bv]) [] e w' := by
  have HX := Lib.hid (fun W (h : RowAt W r gF F 0) => next_any W r gF 0 F h)
  have HV := Lib.hid (fun W (h : RowAt W r gF F K5) => over_any W r gF _ F h)
  have HA := Lib.hid hA
  have HK := Lib.hid (fun W => show Calls Tryd.prog 63 #[.string (fld F 0)] W fun e w' => e = .returned (.int .u8 kd) ∧ Fr [] W w' from by have := kind_any W (fld F 0); rw [hk] at this; exact this)
  have HR := Lib.hid h
  obtain ⟨sb, hsb⟩ : ∃ sb, sb = w.heap.size := ⟨_, rfl⟩
  have HSB := Lib.hid hsb
  have HF := Lib.hid hF
  obtain ⟨fl, hfl⟩ : ∃ fl, fl = thenF f5 (overF F K5) := ⟨_, rfl⟩
  rw [← hfl]
  have HFL := Lib.hid hfl
  have z0 : ((kd : Int) == 0) = false := by rw [beq_eq_false_iff_ne]; omega
  have z1 : ((kd : Int) == 1) = false := by rw [beq_eq_false_iff_ne]; omega
  have z2 : ((kd : Int) == 2) = false := by rw [beq_eq_false_iff_ne]; omega
  have z3 : ((kd : Int) == 3) = false := by rw [beq_eq_false_iff_ne]; omega
  have z4 : ((kd : Int) == 4) = false := by rw [beq_eq_false_iff_ne]; omega
  clear h hk hsb hF hfl hkd hA
  go_enter Tryd.func40, Tryd.ntmps40
  go_wp2_with fail
  rw [← HSB.out]
  (with_reducible refine (HX.out _ (HR.out.fr ((Fr.refl [] _).alloc _) (by simp) (by simp))).mono ?_)
  rintro e w1 ⟨fv, rfl, hp⟩
  rw [nextK, nextF, if_pos HF.out, if_pos HF.out] at hp
  obtain rfl : fv = .pointer none := hp.2.1
  have hb1 : Blk w1 sb #[.int .u8 0, .int .i64 0, .int .i64 0, .int .i64 0, .slice none 0 0] 44 := hp.2.2.blk (Blk.new_at HSB.out _ _) (by have := HR.out.hd.lt; have := HSB.out; simp; omega)
  have HP := Lib.hid (And.intro hp.1 (And.intro hb1 (((Fr.refl [] w).alloc (.cells #[.int .u8 0, .int .i64 0, .int .i64 0, .int .i64 0, .slice none 0 0] 44)).mono (by simp) |>.trans hp.2.2 (fun x hx => .inl hx))))
  clear hp hb1
  rw [show F.getD 0 ⟨#[]⟩ = fld F 0 from rfl]
  generalize fld F 0 = s at HK ⊢
  go_wp2_with fail
  (with_reducible refine (HK.out _).mono ?_)
  rintro e w2 ⟨rfl, f2⟩
  have hb2 := f2.blk HP.out.2.1 (by simp)
  have d0 := hb2.at 0 (v := .int .u8 0) rfl
  have g0 := hb2.free 0
  obtain ⟨w3, hw3⟩ : ∃ w3, (w2.setCell ⟨sb, 0, none⟩ (.int .u8 kd)) = w3 := ⟨_, rfl⟩
  have hb3 : Blk w3 sb #[.int .u8 kd, .int .i64 0, .int .i64 0, .int .i64 0, .slice none 0 0] 44 := by rw [← hw3]; exact hb2.set 0 _
  have f3 : Fr [sb] w2 w3 := by rw [← hw3]; exact (Fr.refl _ _).setCell _ _ (.inl (by simp))
  have hlts := HR.out.lts
  have hz := HSB.out
  have H3 := Lib.hid (show RowAt w3 r gF F 1 ∧ Blk w3 sb _ 44 ∧ Fr [r] w w3 from ⟨(HP.out.1.fr f2 (by simp) (by simp)).fr f3 (by simp; omega) (by simp; omega), hb3, (HP.out.2.2.trans f2 (by simp)).trans f3 (fun x hx => .inr (by simp at hx; omega))⟩)
  have HW3 := Lib.hid hw3
  have c0 := hb3.at 0 (v := .int .u8 kd) rfl
  clear hb2 f2 hw3 hb3 f3 hlts hz
  go_upto_region 3 with fail
  rw [HW3.out]
  clear d0 g0
  go_wp2_with fail
  (with_reducible refine (HA.out _ _ H3.out.1 H3.out.2.1).mono ?_)
  rintro e w5 ⟨fv, rfl, hp⟩
  have H5 := Lib.hid (show RowAt w5 r gF F K5 ∧ Blk w5 sb #[.int .u8 kd', .int .i64 0, .int .i64 sl, .int .i64 pl, .slice none 0 0] 44 ∧ Fr [r] w w5 ∧ BytV w5 w.heap.size (.slice none 0 0) [] from ⟨hp.1, hp.2.2.1, H3.out.2.2.trans hp.2.2.2 (fun x hx => by
    have := HSB.out
    simp only [List.mem_cons, List.not_mem_nil, or_false] at hx
    rcases hx with rfl | rfl
    · exact .inl (by simp)
    · exact .inr (by omega)), BytV.nil _ _⟩)
  have o1 : (Value.int .u8 0).oneCell' = true := rfl
  have o2 : (Value.int .i64 0).oneCell' = true := rfl
  have o3 : (Value.slice none 0 0).oneCell' = true := rfl
  cases hq : f5 with
  | some q =>
    rw [hq] at hp
    obtain ⟨b, rfl, hb, hn⟩ : ∃ b, fv = .pointer (some ⟨b, 0, none⟩) ∧ Blk w5 b #[.int .i64 q.1, .int .i64 q.2] 66 ∧ w.heap.size ≤ b := (by obtain ⟨b, q1, q2, q3⟩ := hp.2.1; exact ⟨b, q1, q2, Nat.le_trans H3.out.2.2.size q3⟩)
    have HB := Lib.hid (And.intro hb hn)
    have hbs : b ≠ sb := hb.ne H5.out.2.1 (by decide)
    have HBS := Lib.hid hbs
    have HE := Lib.hid (show fl = some q by rw [HFL.out, hq]; rfl)
    have q4 : can5 w5 sb = true := H5.out.2.1.can5
    obtain rfl := HE.out
    clear hp hb hn hq hbs
    go_wp2_with fail
    have hlts := HR.out.lts
    have hz := HSB.out
    have hl : Fr [sb] w5 (layS w5 sb (.int .u8 0) (.int .i64 0) (.int .i64 0) (.int .i64 0) (.slice none 0 0)) := (Fr.refl _ _).lay _ _ _ _ _ _ (.inl (by simp))
    refine bodyPost_ret (v := .tuple #[zeroStep, .pointer (some ⟨b, 0, none⟩)]) ?_ rfl (StepQ.bad ?_)
    · exact results_st rfl _ _ sb _ _ rfl rfl (H5.out.2.1.lay _ _ _ _ _).st
    · exact ⟨H5.out.1.fr hl (by simp; omega) (by simp; omega), ⟨b, rfl, hl.blk HB.out.1 (by have := HBS.out; simp; omega), HB.out.2⟩, H5.out.2.2.1.trans hl (fun x hx => .inr (by simp at hx; omega))⟩
  | none =>
    rw [hq] at hp
    obtain rfl : fv = .pointer none := hp.2.1
    have HE := Lib.hid (show fl = overF F K5 by rw [HFL.out, hq]; rfl)
    clear hp hq
    go_wp2_with fail
    (with_reducible refine (HV.out _ H5.out.1).mono ?_)
    rintro e w6 ⟨fv, rfl, hp⟩
    rw [← HE.out] at hp
    have H6 := Lib.hid (show Blk w6 sb _ 44 ∧ Fr [r] w w6 ∧ BytV w6 w.heap.size (.slice none 0 0) [] from ⟨hp.2.2.blk H5.out.2.1 (by have := HR.out.lts; have := HSB.out; simp; omega), H5.out.2.2.1.trans hp.2.2 (fun x hx => .inl hx), H5.out.2.2.2.fr hp.2.2 (fun x hx => by have := HR.out.lts; simp at hx; omega)⟩)
    have HP6 := Lib.hid hp
    have q4 : can5 w6 sb = true := H6.out.1.can5
    have q5 := H6.out.1.st
    have o4 : (Value.int .u8 kd').oneCell' = true := rfl
    have o5 : (Value.int .i64 sl).oneCell' = true := rfl
    have o6 : (Value.int .i64 pl).oneCell' = true := rfl
    cases fl with
    | none =>
      obtain rfl : fv = .pointer none := hp.2.1
      clear hp
      go_wp2_with fail
      have hl : Fr [sb] w6 (layS w6 sb (.int .u8 kd') (.int .i64 0) (.int .i64 sl) (.int .i64 pl) (.slice none 0 0)) := (Fr.refl _ _).lay _ _ _ _ _ _ (.inl (by simp))
      have hlts := HR.out.lts
      have hz := HSB.out
      refine bodyPost_ret (v := .tuple #[.agg #[.int .u8 kd', .int .i64 0, .int .i64 sl, .int .i64 pl, .slice none 0 0], .pointer none]) ?_ rfl (StepQ.good rfl ?_ ?_)
      · exact results_st rfl _ _ sb _ _ rfl rfl (H6.out.1.lay _ _ _ _ _).st
      · exact ⟨HP6.out.1.fr hl (by simp; omega) (by simp; omega), rfl, H6.out.2.1.trans hl (fun x hx => .inr (by simp at hx; omega))⟩
      · exact H6.out.2.2.fr' hl (fun g hg => by simp [Value.ownBlock] at hg)
    | some q =>
      obtain ⟨b, rfl, hb, hn⟩ : ∃ b, fv = .pointer (some ⟨b, 0, none⟩) ∧ Blk w6 b #[.int .i64 q.1, .int .i64 q.2] 66 ∧ w5.heap.size ≤ b := hp.2.1
      have hbs : b ≠ sb := hb.ne H6.out.1 (by decide)
      have HB := Lib.hid (And.intro hb (And.intro hn hbs))
      clear hp hb hn hbs
      go_wp2_with fail
      have hl : Fr [sb] w6 (layS w6 sb (.int .u8 0) (.int .i64 0) (.int .i64 0) (.int .i64 0) (.slice none 0 0)) := (Fr.refl _ _).lay _ _ _ _ _ _ (.inl (by simp))
      have hlts := HR.out.lts
      have hz := HSB.out
      refine bodyPost_ret (v := .tuple #[zeroStep, .pointer (some ⟨b, 0, none⟩)]) ?_ rfl (StepQ.bad ?_)
      · exact results_st rfl _ _ sb _ _ rfl rfl (H6.out.1.lay _ _ _ _ _).st
      · exact ⟨HP6.out.1.fr hl (by simp; omega) (by simp; omega), ⟨b, rfl, hl.blk HB.out.1 (by have := HB.out.2.2; simp; omega), Nat.le_trans H5.out.2.2.1.size HB.out.2.1⟩, H6.out.2.1.trans hl (fun x hx => .inr (by simp at hx; omega))⟩
end Sc
end Go.Proofs.YtbpgpjibljgiiaaDoor
