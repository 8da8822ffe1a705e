/-
  Script, the document: Read. Script: Read. Printed by genRea.py.
-/
import Derived.Test.YtbpgpjibljgiiaaDoorRefS
import Derived.RegionTactic
import Derived.ChangeAlike
namespace Go.Proofs.YtbpgpjibljgiiaaDoor
open Go.RowKit
set_option linter.unusedVariables false
set_option linter.unusedSimpArgs false
attribute [local go_sem] Oper.semAt_some
namespace Sc
def St.zero : St := ⟨0, 0, 0, 0, []⟩
/-- The step that is answered. -/
def readF (F : List ByteArray) : St := if (stepF F).isSome then St.zero else stepS F
def readL (t : ByteArray) : St := if 4194304 < t.size then St.zero else readF (fieldsB t)
def readC (t : ByteArray) : Int := if 4194304 < t.size then 4 else fltC (stepF (fieldsB t))
def ReadQ (w : World) (t : ByteArray) (e : Ending) (w' : World) : Prop :=
  ∃ p c, e = .returned (.tuple #[(readL t).val (.slice p (readL t).by'.length c), .int .i64 (readC t)]) ∧ BytV w' w.heap.size (.slice p (readL t).by'.length c) (readL t).by' ∧ Fr [] w w'
theorem RStepQ.uni {w w' : World} {F : List ByteArray} {e : Ending} (h : RStepQ w F e w') :
    ∃ p c, e = .returned (.tuple #[.agg #[.int .u8 (readF F).kd, .int .i64 (readF F).la, .int .i64 (readF F).sl, .int .i64 (readF F).pl, .slice p (readF F).by'.length c], .int .i64 (fltN (stepF F)), .int .i64 (fltC (stepF F))]) ∧ BytV w' w.heap.size (.slice p (readF F).by'.length c) (readF F).by' ∧ Fr [] w w' := by
  obtain ⟨bv, he, hb, hf⟩ := h
  unfold readF
  cases hs : (stepF F).isSome with
  | true => exact ⟨none, 0, by rw [he, hs]; rfl, BytV.nil _ _, hf⟩
  | false =>
    rw [hs] at hb
    obtain ⟨p, c, rfl⟩ := hb.form
    exact ⟨p, c, by rw [he, hs]; rfl, hb, hf⟩
theorem ReadQ.bad {w w' : World} {t : ByteArray} {c : Int} {v : Value} (h : readL t = St.zero) (hc : readC t = c) (hv : v = zeroStep) (hf : Fr [] w w') : ReadQ w t (.returned (.tuple #[v, .int .i64 c])) w' := by
  subst hc hv
  exact ⟨none, 0, by rw [h]; rfl, by rw [h]; exact BytV.nil _ _, hf⟩
theorem ReadQ.good {w w' : World} {t : ByteArray} {s : St} {c : Int} {v : Value} {p : Option Addr} {k : Nat} (h : readL t = s) (hc : readC t = c) (hv : v = s.val (.slice p s.by'.length k)) (hb : BytV w' w.heap.size (.slice p s.by'.length k) s.by') (hf : Fr [] w w') : ReadQ w t (.returned (.tuple #[v, .int .i64 c])) w' := by
  subst hc hv h
  exact ⟨p, k, rfl, hb, hf⟩
theorem slot_of {W : World} {n0 : Nat} {v : Value} {F : List ByteArray} (h : StrV W n0 v F) (h0 : 0 < F.length) :
    ∃ g c, v = .slice (some ⟨g, 0, none⟩) F.length c ∧ F.length ≤ c ∧ ∀ i s, F[i]? = some s → W.cell? ⟨g, i, none⟩ = some (.string s) := by
  obtain ⟨hl, hn | ⟨g, cap, cur, hv, -, hg, hc, -, hs, ht⟩⟩ := h.1
  · omega
  · refine ⟨g, cap, hv, hc, fun i s hi => ?_⟩
    have h1 : (strs F)[i]? = some (.string s) := by simp [strs, hi]
    rw [← ht, List.getElem?_take] at h1
    split at h1
    · have h2 : cur[i]? = some (.string s) := by simpa using h1
      simp [World.cell?, hg, h2]
    · cases h1
set_option maxRecDepth 100000 in
set_option maxHeartbeats 4000000 in
theorem rread_any (w : World) (t : ByteArray) : Calls Tryd.prog 16 #[.string t] w fun e w' => ReadQ w t e w' := by
  obtain ⟨rb, hrb⟩ : ∃ rb, rb = w.heap.size := ⟨_, rfl⟩
  have HRB := Lib.hid hrb
  obtain ⟨w1, hw1⟩ : ∃ w1, w.alloc (.cells #[.int .u8 0, .int .i64 0, .int .i64 0, .int .i64 0, .slice none 0 0] 44) = w1 := ⟨_, rfl⟩
  have hb1 : Blk w1 rb #[.int .u8 0, .int .i64 0, .int .i64 0, .int .i64 0, .slice none 0 0] 44 := by rw [← hw1]; exact Blk.new_at hrb _ _
  have f1 : Fr [] w w1 := by rw [← hw1]; exact (Fr.refl _ _).alloc _
  have H1 := Lib.hid (And.intro hb1 f1)
  have HW1 := Lib.hid hw1
  have o1 : (Value.int .u8 0).oneCell' = true := rfl
  have o2 : ∀ z : Int, (Value.int .i64 z).oneCell' = true := fun _ => rfl
  have o3 : (Value.slice none 0 0).oneCell' = true := rfl
  have q4 : can5 w1 rb = true := hb1.can5
  clear hrb hw1 hb1 f1
  by_cases h : 4194304 < t.size
  · have k1 : (4194304 : Int) < (t.size : Int) := by omega
    have HC := Lib.hid (show readL t = St.zero ∧ readC t = 4 from ⟨by unfold readL; rw [if_pos h], by unfold readC; rw [if_pos h]⟩)
    clear h
    go_enter Tryd.func16, Tryd.ntmps16
    go_upto_region 1 with fail
    rw [HW1.out, ← HRB.out]
    go_wp2_with fail
    exact bodyPost_ret (v := .tuple #[zeroStep, .int .i64 4]) (results_st rfl _ _ rb _ _ rfl rfl (H1.out.1.lay _ _ _ _ _).st) rfl (ReadQ.bad HC.out.1 HC.out.2 rfl (H1.out.2.trans ((Fr.refl [rb] _).lay _ _ _ _ _ _ (.inl (by simp))) (fun x hx => .inr (by have := HRB.out; simp at hx; omega))))
  · have k1 : (t.size : Int) ≤ 4194304 := by omega
    have HC := Lib.hid (show readL t = readF (fieldsB t) ∧ readC t = fltC (stepF (fieldsB t)) ∧ t.size ≤ 4194304 from ⟨by unfold readL; rw [if_neg h], by unfold readC; rw [if_neg h], by omega⟩)
    clear h
    go_enter Tryd.func16, Tryd.ntmps16
    go_upto_region 1 with fail
    rw [HW1.out, ← HRB.out]
    clear q4
    go_wp2_with fail
    (with_reducible refine (fields_any w1 t (by have := HC.out.2.2; omega)).mono ?_)
    rintro e w2 ⟨v, rfl, hv, f2⟩
    obtain ⟨g0, c, rfl, hcap, hcl⟩ := slot_of hv (fieldsB_pos t)
    obtain ⟨F, hF⟩ : ∃ F, F = fieldsB t := ⟨_, rfl⟩
    rw [← hF] at hcap hcl ⊢
    have hFs : ∀ s ∈ F, s.size ≤ 4294967296 := fun s hs => by rw [hF] at hs; have := fieldsB_size hs; have := HC.out.2.2; omega
    have hFl : F.length ≤ 4294967296 := by rw [hF]; have := fieldsB_len t; have := HC.out.2.2; omega
    have hF0 : 0 < F.length := by rw [hF]; exact fieldsB_pos t
    have hbl : (32 : UInt8) ∉ (fld F 0).data.toList := by
      unfold fld
      rw [List.getD_eq_getElem?_getD, List.getElem?_eq_getElem hF0, Option.getD_some]
      exact fieldsB_blank (s := t) (by rw [← hF]; exact List.getElem_mem hF0)
    have HST := Lib.hid (refstep_any w2 g0 c F hcl hFs hFl hcap hF0 hbl)
    have H2 := Lib.hid (show Blk w2 rb _ 44 ∧ Fr [] w w2 from ⟨f2.blk H1.out.1 (by simp), H1.out.2.trans f2 (by simp)⟩)
    have HFF := Lib.hid hF
    obtain ⟨N, hN⟩ : ∃ N, N = F.length := ⟨_, rfl⟩
    rw [← hN] at HST ⊢
    clear hv f2 hcap hcl hFs hFl hF0 hbl hF hN
    go_wp2_with fail
    (with_reducible refine HST.out.mono ?_)
    rintro e w3 hq
    obtain ⟨p, k, rfl, hb, f3⟩ := hq.uni
    obtain ⟨s, hs⟩ : ∃ s, s = readF F := ⟨_, rfl⟩
    obtain ⟨cd, hcd⟩ : ∃ cd, cd = fltC (stepF F) := ⟨_, rfl⟩
    obtain ⟨fn, hfn⟩ : ∃ fn, fn = fltN (stepF F) := ⟨_, rfl⟩
    rw [← hs] at hb ⊢
    rw [← hcd, ← hfn]
    obtain ⟨kd, la, sl, pl, by'⟩ := s
    have HQ := Lib.hid (show readL t = ⟨kd, la, sl, pl, by'⟩ ∧ readC t = cd from ⟨by rw [HC.out.1, ← HFF.out, hs], by rw [HC.out.2.1, ← HFF.out, hcd]⟩)
    have hb : BytV w3 w2.heap.size (.slice p by'.length k) by' := hb
    obtain ⟨ob, hob⟩ : ∃ ob, ob = w3.heap.size := ⟨_, rfl⟩
    have hz := Blk.new_at hob #[.int .u8 0, .int .i64 0, .int .i64 0, .int .i64 0, .slice none 0 0] 44
    have q5 := hz.can5
    rw [hob] at q5
    have o4 : (Value.slice p by'.length k).oneCell' = true := rfl
    have o5 : (Value.int .u8 kd).oneCell' = true := rfl
    obtain ⟨w4, hw4⟩ : ∃ w4, layS (w3.alloc (.cells #[.int .u8 0, .int .i64 0, .int .i64 0, .int .i64 0, .slice none 0 0] 44)) w3.heap.size (.int .u8 kd) (.int .i64 la) (.int .i64 sl) (.int .i64 pl) (.slice p by'.length k) = w4 := ⟨_, rfl⟩
    have f4 : Fr [] w3 w4 := by rw [← hw4]; exact ((Fr.refl [] w3).alloc _).lay _ _ _ _ _ _ (.inr (Nat.le_refl _))
    have ho4 : Blk w4 ob #[.int .u8 kd, .int .i64 la, .int .i64 sl, .int .i64 pl, .slice p by'.length k] 44 := by rw [← hw4, ← hob]; exact hz.lay _ _ _ _ _
    have hr3 := f3.blk H2.out.1 (by simp)
    have hr4 := f4.blk hr3 (by simp)
    have hf4 : Fr [] w w4 := (H2.out.2.trans f3 (by simp)).trans f4 (by simp)
    have hb4 : BytV w4 w2.heap.size (.slice p by'.length k) by' := hb.fr' f4 (by simp)
    have H4 := Lib.hid (And.intro ho4 (And.intro hr4 (And.intro hf4 (And.intro hb4 H2.out.2.size))))
    have HOB := Lib.hid hob
    have HW4 := Lib.hid hw4
    clear hz hob hw4 f4 ho4 hr3 hr4 hf4 hb4 hb f3 hcd hfn hs hq
    go_upto_region 4 with fail
    rw [HW4.out, ← HOB.out]
    clear q5
    have q5 := H4.out.1.st
    have q4 := H4.out.2.1.can5
    clear o1
    go_wp2_with fail
    have hl : Fr [rb] w4 (layS w4 rb (.int .u8 kd) (.int .i64 la) (.int .i64 sl) (.int .i64 pl) (.slice p by'.length k)) := (Fr.refl _ _).lay _ _ _ _ _ _ (.inl (by simp))
    refine bodyPost_ret (v := .tuple #[.agg #[.int .u8 kd, .int .i64 la, .int .i64 sl, .int .i64 pl, .slice p by'.length k], .int .i64 cd]) (results_st rfl _ _ rb _ _ rfl rfl (H4.out.2.1.lay _ _ _ _ _).st) rfl (ReadQ.good HQ.out.1 HQ.out.2 rfl ?_ ?_)
    · exact (H4.out.2.2.2.1.from H4.out.2.2.2.2).fr' hl (fun g hg hm => H4.out.2.2.2.1.ne H4.out.2.1 (by decide) g hg (by simpa using hm))
    · exact H4.out.2.2.1.trans hl (fun x hx => .inr (by have := HRB.out; simp at hx; omega))
end Sc
end Go.Proofs.YtbpgpjibljgiiaaDoor
namespace Go.Proofs.YtbpgpjibljgiiaaDoor
open Go.RowKit
set_option linter.unusedVariables false
set_option linter.unusedSimpArgs false
attribute [local go_sem] Oper.semAt_some
namespace Sc
theorem StepQ.uni {w w' : World} {r gF K : Nat} {F : List ByteArray} {e : Ending} (h : StepQ w r gF F K (stepF F) (stepS F).val (stepS F).by' e w') :
    ∃ p c fv, e = .returned (.tuple #[.agg #[.int .u8 (readF F).kd, .int .i64 (readF F).la, .int .i64 (readF F).sl, .int .i64 (readF F).pl, .slice p (readF F).by'.length c], fv]) ∧ BytV w' w.heap.size (.slice p (readF F).by'.length c) (readF F).by' ∧ RPost w r gF F K (stepF F) fv w' := by
  obtain ⟨fv, bv, he, hp, hb⟩ := h
  unfold readF
  cases hs : (stepF F).isSome with
  | true => exact ⟨none, 0, fv, by rw [he, hs]; rfl, BytV.nil _ _, hp⟩
  | false =>
    rw [hs] at hb
    obtain ⟨p, c, rfl⟩ := hb.form
    exact ⟨p, c, fv, by rw [he, hs]; rfl, hb, hp⟩
set_option maxRecDepth 100000 in
set_option maxHeartbeats 4000000 in
theorem read_any (w : World) (t : ByteArray) (m : Int) (hm : w.cell? ⟨1, 0, none⟩ = some (.int .i64 m)) : Calls Tryd.prog 14 #[.string t] w fun e w' => ReadQ w t e w' := by
  obtain ⟨rb, hrb⟩ : ∃ rb, rb = w.heap.size := ⟨_, rfl⟩
  have HRB := Lib.hid hrb
  obtain ⟨w1, hw1⟩ : ∃ w1, w.alloc (.cells #[.int .u8 0, .int .i64 0, .int .i64 0, .int .i64 0, .slice none 0 0] 44) = w1 := ⟨_, rfl⟩
  have hb1 : Blk w1 rb #[.int .u8 0, .int .i64 0, .int .i64 0, .int .i64 0, .slice none 0 0] 44 := by rw [← hw1]; exact Blk.new_at hrb _ _
  have f1 : Fr [] w w1 := by rw [← hw1]; exact (Fr.refl _ _).alloc _
  have H1 := Lib.hid (And.intro hb1 f1)
  have HW1 := Lib.hid hw1
  have HM := Lib.hid ((f1.cell (World.block_lt_of_cell? w _ hm) (by simp)).trans hm)
  have o1 : (Value.int .u8 0).oneCell' = true := rfl
  have o2 : ∀ z : Int, (Value.int .i64 z).oneCell' = true := fun _ => rfl
  have o3 : (Value.slice none 0 0).oneCell' = true := rfl
  have q4 : can5 w1 rb = true := hb1.can5
  clear hrb hw1 hb1 f1 hm
  by_cases h : 4194304 < t.size
  · have k1 : (4194304 : Int) < (t.size : Int) := by omega
    have HC := Lib.hid (show readL t = St.zero ∧ readC t = 4 from ⟨by unfold readL; rw [if_pos h], by unfold readC; rw [if_pos h]⟩)
    clear h
    go_enter Tryd.func14, Tryd.ntmps14
    go_upto_region 1 with fail
    rw [HW1.out, ← HRB.out]
    go_wp2_with fail
    exact bodyPost_ret (v := .tuple #[zeroStep, .int .i64 4]) (results_st rfl _ _ rb _ _ rfl rfl (H1.out.1.lay _ _ _ _ _).st) rfl (ReadQ.bad HC.out.1 HC.out.2 rfl (H1.out.2.trans ((Fr.refl [rb] _).lay _ _ _ _ _ _ (.inl (by simp))) (fun x hx => .inr (by have := HRB.out; simp at hx; omega))))
  · have k1 : (t.size : Int) ≤ 4194304 := by omega
    have HC := Lib.hid (show readL t = readF (fieldsB t) ∧ readC t = fltC (stepF (fieldsB t)) ∧ t.size ≤ 4194304 from ⟨by unfold readL; rw [if_neg h], by unfold readC; rw [if_neg h], by omega⟩)
    have HSP := Lib.hid (Tryd.strings_Split t ⟨#[32]⟩ m w1 (by omega) HM.out (by decide))
    rw [splitB_fields, splitB_count] at HSP
    clear h
    go_enter Tryd.func14, Tryd.ntmps14
    go_upto_region 1 with fail
    rw [HW1.out, ← HRB.out]
    clear q4
    go_wp2_with fail
    (with_reducible refine HSP.out.mono ?_)
    rintro e w2 ⟨rfl, hw2⟩
    obtain ⟨F, hF⟩ : ∃ F, F = fieldsB t := ⟨_, rfl⟩
    rw [← hF] at hw2 ⊢
    obtain ⟨gF, hgF⟩ : ∃ gF, gF = w1.heap.size := ⟨_, rfl⟩
    obtain ⟨r, hr⟩ : ∃ r, r = w2.heap.size := ⟨_, rfl⟩
    obtain ⟨w3, hw3⟩ : ∃ w3, w2.alloc (.cells #[.slice (some ⟨gF, 0, none⟩) F.length F.length, .int .i64 0] 62) = w3 := ⟨_, rfl⟩
    have f2 : Fr [] w1 w2 := by rw [hw2]; exact (Fr.refl _ _).alloc _
    have f3 : Fr [] w1 w3 := by rw [← hw3]; exact f2.alloc _
    have hbF : Blk w2 gF (strs F).toArray 9 := by rw [hw2]; exact Blk.new_at hgF _ _
    have hFl : F.length ≤ 4294967296 := by rw [hF]; have := fieldsB_len t; have := HC.out.2.2; omega
    have hrow : RowAt w3 r gF F 0 := ⟨by rw [← hw3]; exact Blk.new_at hr _ _, by rw [← hw3]; exact hbF.alloc _, Nat.zero_le _, hFl⟩
    have hF0 : 0 < F.length := by rw [hF]; exact fieldsB_pos t
    have hFs : ∀ s ∈ F, s.size ≤ 4294967296 := fun s hs => by rw [hF] at hs; have := fieldsB_size hs; have := HC.out.2.2; omega
    have HST := Lib.hid (step_any w3 r gF F hrow hF0 hFs)
    have H3 := Lib.hid (show Blk w3 rb #[.int .u8 0, .int .i64 0, .int .i64 0, .int .i64 0, .slice none 0 0] 44 ∧ Fr [] w w3 ∧ w.heap.size ≤ r from ⟨f3.blk H1.out.1 (by simp), H1.out.2.trans f3 (by simp), by rw [hr]; exact Nat.le_trans H1.out.2.size f2.size⟩)
    have HNE := Lib.hid (show r ≠ rb from hrow.hd.ne H3.out.1 (by decide))
    have HFF := Lib.hid hF
    have HRG := Lib.hid (And.intro hgF hr)
    have HW3 := Lib.hid hw3
    clear f2 f3 hbF hFl hrow hF0 hFs hF hgF hr hw2 hw3
    go_upto_region 4 with fail
    rw [← HRG.out.1, ← HRG.out.2, HW3.out]
    go_wp2_with fail
    (with_reducible refine HST.out.mono ?_)
    rintro e w4 hq
    obtain ⟨p, k, fv, rfl, hb, hp⟩ := hq.uni
    obtain ⟨s, hs⟩ : ∃ s, s = readF F := ⟨_, rfl⟩
    rw [← hs] at hb ⊢
    obtain ⟨kd, la, sl, pl, by'⟩ := s
    have hb : BytV w4 w3.heap.size (.slice p by'.length k) by' := hb
    have HQ := Lib.hid (show readL t = ⟨kd, la, sl, pl, by'⟩ ∧ readC t = fltC (stepF F) from ⟨by rw [HC.out.1, ← HFF.out, hs], by rw [HC.out.2.1, ← HFF.out]⟩)
    obtain ⟨ob, hob⟩ : ∃ ob, ob = w4.heap.size := ⟨_, rfl⟩
    have hz := Blk.new_at hob #[.int .u8 0, .int .i64 0, .int .i64 0, .int .i64 0, .slice none 0 0] 44
    have q5 := hz.can5
    rw [hob] at q5
    have o4 : (Value.slice p by'.length k).oneCell' = true := rfl
    have o5 : (Value.int .u8 kd).oneCell' = true := rfl
    obtain ⟨w5, hw5⟩ : ∃ w5, layS (w4.alloc (.cells #[.int .u8 0, .int .i64 0, .int .i64 0, .int .i64 0, .slice none 0 0] 44)) w4.heap.size (.int .u8 kd) (.int .i64 la) (.int .i64 sl) (.int .i64 pl) (.slice p by'.length k) = w5 := ⟨_, rfl⟩
    have f5 : Fr [] w4 w5 := by rw [← hw5]; exact ((Fr.refl [] w4).alloc _).lay _ _ _ _ _ _ (.inr (Nat.le_refl _))
    have ho5 : Blk w5 ob #[.int .u8 kd, .int .i64 la, .int .i64 sl, .int .i64 pl, .slice p by'.length k] 44 := by rw [← hw5, ← hob]; exact hz.lay _ _ _ _ _
    have hr4 := hp.2.2.blk H3.out.1 (by have := HNE.out; simp; omega)
    have hr5 := f5.blk hr4 (by simp)
    have hf5 : Fr [] w w5 := (H3.out.2.1.trans hp.2.2 (fun x hx => .inr (by have := H3.out.2.2; simp at hx; omega))).trans f5 (by simp)
    have hb5 : BytV w5 w3.heap.size (.slice p by'.length k) by' := hb.fr' f5 (by simp)
    have hfv : FaultV w5 w3.heap.size fv (stepF F) := by
      cases hc : stepF F with
      | none => rw [hc] at hp; exact hp.2.1
      | some q =>
        rw [hc] at hp
        obtain ⟨b, h1, h2, h3⟩ : ∃ b, fv = .pointer (some ⟨b, 0, none⟩) ∧ Blk w4 b #[.int .i64 q.1, .int .i64 q.2] 66 ∧ w3.heap.size ≤ b := hp.2.1
        exact ⟨b, h1, f5.blk h2 (by simp), h3⟩
    have H5 := Lib.hid (And.intro ho5 (And.intro hr5 (And.intro hf5 (And.intro hb5 (And.intro H3.out.2.1.size hfv)))))
    have HOB := Lib.hid hob
    have HW5 := Lib.hid hw5
    clear hz hob hw5 f5 ho5 hr4 hr5 hf5 hb5 hb hs hq hp hfv
    go_upto_region 5 with fail
    rw [HW5.out, ← HOB.out]
    clear q5
    cases hc : stepF F with
    | none =>
      obtain rfl : fv = .pointer none := by have := H5.out.2.2.2.2.2; rw [hc] at this; exact this
      have HCD := Lib.hid (show readC t = 0 by rw [HQ.out.2, hc]; rfl)
      have q5 := H5.out.1.st
      have q4 := H5.out.2.1.can5
      clear o1 hc
      go_wp2_with fail
      have hl : Fr [rb] w5 (layS w5 rb (.int .u8 kd) (.int .i64 la) (.int .i64 sl) (.int .i64 pl) (.slice p by'.length k)) := (Fr.refl _ _).lay _ _ _ _ _ _ (.inl (by simp))
      refine bodyPost_ret (v := .tuple #[.agg #[.int .u8 kd, .int .i64 la, .int .i64 sl, .int .i64 pl, .slice p by'.length k], .int .i64 0]) (results_st rfl _ _ rb _ _ rfl rfl (H5.out.2.1.lay _ _ _ _ _).st) rfl (ReadQ.good HQ.out.1 HCD.out rfl ?_ ?_)
      · exact (H5.out.2.2.2.1.from H5.out.2.2.2.2.1).fr' hl (fun g hg hm => H5.out.2.2.2.1.ne H5.out.2.1 (by decide) g hg (by simpa using hm))
      · exact H5.out.2.2.1.trans hl (fun x hx => .inr (by have := HRB.out; simp at hx; omega))
    | some q =>
      obtain ⟨b, rfl, hbq, hbn⟩ : ∃ b, fv = .pointer (some ⟨b, 0, none⟩) ∧ Blk w5 b #[.int .i64 q.1, .int .i64 q.2] 66 ∧ w3.heap.size ≤ b := by have := H5.out.2.2.2.2.2; rw [hc] at this; exact this
      have HCD := Lib.hid (show readC t = q.2 by rw [HQ.out.2, hc]; rfl)
      have HZ := Lib.hid (show readL t = St.zero by rw [HC.out.1, ← HFF.out]; unfold readF; rw [hc]; rfl)
      have HBQ := Lib.hid hbq
      have HBN := Lib.hid (hbq.ne H5.out.2.1 (by decide))
      have q4 : can5 w5.drew rb = true := H5.out.2.1.can5
      have q4' : can5 w5 rb = true := H5.out.2.1.can5
      have c1 : w5.cell? ⟨b, 1, none⟩ = some (.int .i64 q.2) := hbq.at 1 rfl
      have c2 : (layS w5.drew rb (.int .u8 0) (.int .i64 0) (.int .i64 0) (.int .i64 0) (.slice none 0 0)).cell? ⟨b, 1, none⟩ = some (.int .i64 q.2) := (((Fr.refl [rb] w5.drew).lay _ _ _ _ _ _ (.inl (by simp))).blk hbq.drew (by have := HBN.out; simp; omega)).at 1 rfl
      clear hc hbq hbn o4 o5
      go_wp2_with fail
      go_region
      go_wp2_with fail
      have hl : Fr [rb] w5 (layS w5.drew rb (.int .u8 0) (.int .i64 0) (.int .i64 0) (.int .i64 0) (.slice none 0 0)) := ((Fr.refl _ _).drew).lay _ _ _ _ _ _ (.inl (by simp))
      exact bodyPost_ret (v := .tuple #[zeroStep, .int .i64 q.2]) (results_st rfl _ _ rb _ _ rfl rfl ((H5.out.2.1.drew).lay _ _ _ _ _).st) rfl (ReadQ.bad HZ.out HCD.out rfl (H5.out.2.2.1.trans hl (fun x hx => .inr (by have := HRB.out; simp at hx; omega))))
end Sc
end Go.Proofs.YtbpgpjibljgiiaaDoor
