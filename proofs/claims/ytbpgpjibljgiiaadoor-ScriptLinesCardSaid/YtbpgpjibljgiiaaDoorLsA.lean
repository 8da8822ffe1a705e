/-
  ScriptLines: the walk. Printed by genLns.py.
-/
import Derived.Test.YtbpgpjibljgiiaaDoorLefA
import Derived.Test.YtbpgpjibljgiiaaDoorLnQ
import Derived.Deep.Cut
namespace Go.Proofs.YtbpgpjibljgiiaaDoor
open Go.RowKit
set_option linter.unusedVariables false
set_option linter.unusedSimpArgs false
attribute [local go_sem] Oper.semAt_some
namespace Sc
theorem RdT.one {W : World} {g : Nat} {s : St} {bv : Value} (h : Blk W g #[.int .u8 s.kd, .int .i64 s.la, .int .i64 s.sl, .int .i64 s.pl, bv] 44) (hb : Rd W bv (u8s s.by')) : RdT W (.slice (some ⟨g, 0, none⟩) 1 1) [(s, bv)] := by
  refine ⟨⟨_, 1, rfl, Nat.le_refl _, .inr ⟨g, 0, rfl, fun i x hx j u hu => ?_⟩⟩, fun x hx => ?_⟩
  · match i, hx with
    | 0, hx =>
      simp at hx
      subst hx
      rw [show 0 + 0 * 5 + j = j by omega]
      exact h.at j (by simpa [St.cells] using hu)
    | i + 1, hx => simp at hx
  · simp at hx
    subst hx
    exact hb
theorem map_one {C : List (St × Value)} {s : St} (h : C.map Prod.fst = [s]) : ∃ bv, C = [(s, bv)] := by
  match C, h with
  | [(t, bv)], h => simp at h; subst h; exact ⟨bv, rfl⟩
  | [], h => simp at h
  | a :: b :: r, h => simp at h
theorem ReadQ.uni {w w' : World} {t : ByteArray} {e : Ending} (h : ReadQ w t e w') : ∃ p c, e = .returned (.tuple #[.agg #[.int .u8 (readL t).kd, .int .i64 (readL t).la, .int .i64 (readL t).sl, .int .i64 (readL t).pl, (.slice p (readL t).by'.length c)], .int .i64 (readC t)]) ∧ BytV w' w.heap.size (.slice p (readL t).by'.length c) (readL t).by' ∧ Fr [] w w' := h
set_option maxRecDepth 100000 in
set_option maxHeartbeats 16000000 in
theorem lines_walk (w : World) (s : St) (p : Option Addr) (c : Nat) (line : ByteArray) (m : Int) (hm : w.cell? ⟨1, 0, none⟩ = some (.int .i64 m)) (htb : TB w) (hi : StI s) (hrd : Rd w (.slice p s.by'.length c) (u8s s.by')) (hbl : s.by'.length ≤ 140737488351232) :
    Calls Tryd.prog 4 #[.agg #[.int .u8 s.kd, .int .i64 s.la, .int .i64 s.sl, .int .i64 s.pl, .slice p s.by'.length c], .string line] w fun e w' => e = .returned (.bool true) ∧ Fr [] w w' := by
  have HM := Lib.hid (show ∀ W, Fr [] w W → W.cell? ⟨1, 0, none⟩ = some (.int .i64 m) from fun W f => (f.cell (World.block_lt_of_cell? w _ hm) (by simp)).trans hm)
  have HTB := Lib.hid htb
  have HI := Lib.hid (And.intro hi (And.intro hrd hbl))
  obtain ⟨bx, hbx⟩ : ∃ bx, bx = w.heap.size := ⟨_, rfl⟩
  obtain ⟨n, hn⟩ : ∃ n, n = s.by'.length := ⟨_, rfl⟩
  rw [← hn]
  have HNN := Lib.hid hn
  obtain ⟨w1, hw1⟩ : ∃ w1, w.alloc (.cells #[.int .u8 s.kd, .int .i64 s.la, .int .i64 s.sl, .int .i64 s.pl, .slice p n c] 44) = w1 := ⟨_, rfl⟩
  have hb : Blk w1 bx #[.int .u8 s.kd, .int .i64 s.la, .int .i64 s.sl, .int .i64 s.pl, .slice p n c] 44 := by rw [← hw1]; exact Blk.new_at hbx _ _
  have H1 := Lib.hid (And.intro hb (show Fr [] w w1 by rw [← hw1]; exact (Fr.refl _ _).alloc _))
  have HW1 := Lib.hid hw1
  have HBX := Lib.hid hbx
  have q1 := hb.st
  obtain ⟨gn, hgn⟩ : ∃ gn, gn = w1.heap.size := ⟨_, rfl⟩
  obtain ⟨w2, hw2⟩ : ∃ w2, w1.alloc (.cells #[.int .u8 s.kd, .int .i64 s.la, .int .i64 s.sl, .int .i64 s.pl, .slice p n c] 44) = w2 := ⟨_, rfl⟩
  have H2 := Lib.hid (show Blk w2 bx _ 44 ∧ Blk w2 gn #[.int .u8 s.kd, .int .i64 s.la, .int .i64 s.sl, .int .i64 s.pl, .slice p n c] 44 ∧ Fr [] w w2 from ⟨by rw [← hw2]; exact hb.alloc _, by rw [← hw2]; exact Blk.new_at hgn _ _, by rw [← hw2]; exact H1.out.2.alloc _⟩)
  have HW2 := Lib.hid hw2
  have HGN := Lib.hid hgn
  have HRT := Lib.hid (show RdT w2 (.slice (some ⟨gn, 0, none⟩) 1 1) [(s, .slice p n c)] from RdT.one H2.out.2.1 (by rw [HNN.out]; exact HI.out.2.1.grow H2.out.2.2))
  have HCO := Lib.hid (copied_any w2 _ _ HRT.out (by simp) (fun x hx => by simp at hx; subst hx; exact HI.out.2.2))
  clear hm htb hi hrd hbl hbx hn hw1 hb hgn hw2
  go_enter Tryd.func4, Tryd.ntmps4
  go_upto_region 1 with fail
  rw [HW1.out, ← HBX.out]
  go_wp2_with fail
  rw [HW2.out, ← HGN.out]
  (with_reducible refine HCO.out.mono ?_)
  rintro e w3 ⟨v3, C3, rfl, hm3, hc3, f3⟩
  obtain ⟨bv3, rfl⟩ := map_one hm3
  obtain ⟨g3, o3, c3, rfl, -, hld3, -⟩ := hc3.st.rdT.load (k := 0) (x := (s, bv3)) rfl
  have ho3 : o3 = 0 := by
    obtain ⟨pq, cq, hq⟩ := own_form hc3.st.own
    rcases hc3.st.own.2 with ⟨h, _⟩ | ⟨g', cap, cur, h, _⟩
    · cases h
    · have := (Value.slice.inj h).1; simp at this; exact this.2
  subst ho3
  obtain ⟨p3, k3, hbe3⟩ := (hc3.st.byt (s, bv3) (by simp)).form
  replace hbe3 : bv3 = .slice p3 s.by'.length k3 := hbe3
  subst hbe3
  have H3 := Lib.hid (show CopV w3 w2.heap.size (.slice (some ⟨g3, 0, none⟩) 1 c3) [(s, .slice p3 s.by'.length k3)] ∧ Blk w3 bx _ 44 ∧ Fr [] w w3 from ⟨hc3, f3.blk H2.out.1 (by simp), H2.out.2.2.trans f3 (by simp)⟩)
  rw [← HNN.out] at hld3
  replace hld3 : (loadSt ⟨g3, 0, none⟩).run Tryd.prog w3 = .ok (.agg #[.int .u8 s.kd, .int .i64 s.la, .int .i64 s.sl, .int .i64 s.pl, .slice p3 n k3]) w3 := by
    have := hld3
    simpa [St.val] using this
  have kc3 : (1 : Int) ≤ (c3 : Int) := by
    obtain ⟨pq, cq, hq, hqc, -⟩ := hc3.st.rdT.form
    have := (Value.slice.inj hq).2.2
    simp at hqc; omega
  obtain ⟨X, hX⟩ : ∃ X, X = lineX s := ⟨_, rfl⟩
  obtain ⟨E, hE⟩ : ∃ E, E = lineE s := ⟨_, rfl⟩
  have HXE := Lib.hid (And.intro hX hE)
  have HSL := Lib.hid (sline_any w3 s p3 k3 HI.out.1 (HTB.out.fr H3.out.2.2 (by simp)) (H3.out.1.st.rdT.byt (s, .slice p3 s.by'.length k3) (by simp)))
  rw [← hX, ← hE, ← HNN.out] at HSL
  replace HSL := Lib.hid (show Calls Tryd.prog 11 #[.agg #[.int .u8 s.kd, .int .i64 s.la, .int .i64 s.sl, .int .i64 s.pl, .slice p3 n k3]] w3 _ from HSL.out)
  clear hm3 hc3 f3 hX hE q1
  go_wp2_with fail
  (with_reducible refine HSL.out.mono ?_)
  rintro e w4 ⟨rfl, f4⟩
  have H4 := Lib.hid (show CopV w4 w2.heap.size (.slice (some ⟨g3, 0, none⟩) 1 c3) [(s, .slice p3 s.by'.length k3)] ∧ Blk w4 bx _ 44 ∧ Fr [] w w4 from ⟨H3.out.1.fr f4, f4.blk H3.out.2.1 (by simp), H3.out.2.2.trans f4 (by simp)⟩)
  have HRL := Lib.hid (rline_any w4 s p c HI.out.1 (HI.out.2.1.grow H4.out.2.2))
  rw [← HXE.out.1, ← HXE.out.2, ← HNN.out] at HRL
  replace HRL := Lib.hid (show Calls Tryd.prog 12 #[.agg #[.int .u8 s.kd, .int .i64 s.la, .int .i64 s.sl, .int .i64 s.pl, .slice p n c]] w4 _ from HRL.out)
  have q1 := H4.out.2.1.st
  clear f4 hld3 kc3
  go_wp2_with fail
  (with_reducible refine HRL.out.mono ?_)
  rintro e w5 ⟨rfl, f5⟩
  have H5 := Lib.hid (show CopV w5 w2.heap.size (.slice (some ⟨g3, 0, none⟩) 1 c3) [(s, .slice p3 s.by'.length k3)] ∧ Blk w5 bx #[.int .u8 s.kd, .int .i64 s.la, .int .i64 s.sl, .int .i64 s.pl, .slice p n c] 44 ∧ Fr [] w w5 from ⟨H4.out.1.fr f5, f5.blk H4.out.2.1 (by simp), H4.out.2.2.trans f5 (by simp)⟩)
  clear f5 q1
  have q1 := H5.out.2.1.st
  obtain ⟨w6, hw6⟩ : ∃ w6, w5.alloc (.cells #[.int .u8 s.kd, .int .i64 s.la, .int .i64 s.sl, .int .i64 s.pl, .slice p n c] 44) = w6 := ⟨_, rfl⟩
  obtain ⟨g6, hg6⟩ : ∃ g6, g6 = w5.heap.size := ⟨_, rfl⟩
  have f6 : Fr [] w5 w6 := by rw [← hw6]; exact (Fr.refl _ _).alloc _
  have H6 := Lib.hid (show Blk w6 g6 #[.int .u8 s.kd, .int .i64 s.la, .int .i64 s.sl, .int .i64 s.pl, .slice p n c] 44 ∧ Blk w6 bx #[.int .u8 s.kd, .int .i64 s.la, .int .i64 s.sl, .int .i64 s.pl, .slice p n c] 44 ∧ Fr [] w w6 ∧ CopV w6 w2.heap.size (.slice (some ⟨g3, 0, none⟩) 1 c3) [(s, .slice p3 s.by'.length k3)] from ⟨by rw [← hw6]; exact Blk.new_at hg6 _ _, f6.blk H5.out.2.1 (by simp), H5.out.2.2.trans f6 (by simp), H5.out.1.fr f6⟩)
  have HW6 := Lib.hid hw6
  have HG6 := Lib.hid hg6
  have HLE := Lib.hid (left_any w6 w2.heap.size _ (.slice (some ⟨g6, 0, none⟩) 1 1) _ [(s, .slice p n c)] H6.out.2.2.2 (RdT.one H6.out.1 (by rw [HNN.out]; exact HI.out.2.1.grow H6.out.2.2.1)) rfl (by simp) (fun x hx => by simp at hx; subst hx; exact HI.out.2.2) (fun x hx => by simp at hx; subst hx; exact HI.out.1.2.2.2.2))
  clear hw6 hg6 f6
  have ex1 : (X.toList != X.toList) = false := by simp
  have ex2 : (E != E) = false := by simp
  go_wp2_with fail
  rw [HW6.out, ← HG6.out]
  (with_reducible refine HLE.out.mono ?_)
  rintro e w7 ⟨rfl, f7⟩
  have H7 := Lib.hid (show Blk w7 bx #[.int .u8 s.kd, .int .i64 s.la, .int .i64 s.sl, .int .i64 s.pl, .slice p n c] 44 ∧ Fr [] w w7 from ⟨f7.blk H6.out.2.1 (by simp), H6.out.2.2.1.trans f7 (by simp)⟩)
  clear f7 q1 ex1 ex2
  go_upto_if 49 with fail
  go_cut [10, 11] from 48 (fun s10 s11 wx => Fr [] w wx)
  case first =>
    by_cases hE : E = 0
    · have e1 : (E == 0) = true := by rw [hE]; rfl
      have HLR := Lib.hid (show readC X = 0 ∧ readL X = s from by rw [HXE.out.1]; exact line_read HI.out.1 (by rw [← HXE.out.2]; exact hE))
      have HRD := Lib.hid (read_any w7 X m (HM.out w7 H7.out.2))
      clear hE
      go_wp2_with fail
      (with_reducible refine HRD.out.mono ?_)
      rintro e w8 hq
      obtain ⟨p8, k8, rfl, hb8, f8⟩ := hq.uni
      rw [HLR.out.1]
      rw [HLR.out.2] at hb8 ⊢
      rw [← HNN.out]
      have H8 := Lib.hid (show Blk w8 bx #[.int .u8 s.kd, .int .i64 s.la, .int .i64 s.sl, .int .i64 s.pl, .slice p n c] 44 ∧ Fr [] w w8 ∧ BytV w8 w7.heap.size (.slice p8 s.by'.length k8) s.by' from ⟨f8.blk H7.out.1 (by simp), H7.out.2.trans f8 (by simp), hb8⟩)
      clear hq hb8 f8
      obtain ⟨b10, hob⟩ : ∃ ob, ob = w8.heap.size := ⟨_, rfl⟩
      have hz := Blk.new_at hob #[.int .u8 0, .int .i64 0, .int .i64 0, .int .i64 0, .slice none 0 0] 44
      have q5 := hz.can5
      rw [hob] at q5
      have o1 : (Value.int .u8 s.kd).oneCell' = true := rfl
      have o2 : ∀ z : Int, (Value.int .i64 z).oneCell' = true := fun _ => rfl
      have o3 : (.slice p8 n k8 : Value).oneCell' = true := rfl
      obtain ⟨w10, hwn⟩ : ∃ w4, layS (w8.alloc (.cells #[.int .u8 0, .int .i64 0, .int .i64 0, .int .i64 0, .slice none 0 0] 44)) w8.heap.size (.int .u8 s.kd) (.int .i64 s.la) (.int .i64 s.sl) (.int .i64 s.pl) (.slice p8 n k8) = w4 := ⟨_, rfl⟩
      have hf : Fr [] w8 w10 := by rw [← hwn]; exact ((Fr.refl [] w8).alloc _).lay _ _ _ _ _ _ (.inr (Nat.le_refl _))
      have ho : Blk w10 b10 #[.int .u8 s.kd, .int .i64 s.la, .int .i64 s.sl, .int .i64 s.pl, .slice p8 n k8] 44 := by rw [← hwn, ← hob]; exact hz.lay _ _ _ _ _
      have HBb10 := Lib.hid (And.intro ho hf)
      have HOb10 := Lib.hid hob
      have HWb10 := Lib.hid hwn
      clear hz hob hwn hf ho
      go_upto_region 8 with fail
      rw [HWb10.out, ← HOb10.out]
      clear q5 o1 o2 o3
      have H10 := Lib.hid (show Blk w10 bx #[.int .u8 s.kd, .int .i64 s.la, .int .i64 s.sl, .int .i64 s.pl, .slice p n c] 44 ∧ Fr [] w w10 from ⟨HBb10.out.2.blk H8.out.1 (by simp), H8.out.2.1.trans HBb10.out.2 (by simp)⟩)
      have q5 := HBb10.out.1.st
      have q1 := H10.out.1.st
      have HSM := Lib.hid (same_step_any w10 s s (.slice p8 n k8) (.slice p n c) (Rd.of_own (by rw [HNN.out]; exact (H8.out.2.2.fr' HBb10.out.2 (by simp)).1)) (by rw [HNN.out]; exact HI.out.2.1.grow H10.out.2) HI.out.1.2.2.2.2 HI.out.1.2.2.2.2)
      rw [decide_eq_true rfl] at HSM
      replace HSM := Lib.hid (show Calls Tryd.prog 15 #[.agg #[.int .u8 s.kd, .int .i64 s.la, .int .i64 s.sl, .int .i64 s.pl, .slice p8 n k8], .agg #[.int .u8 s.kd, .int .i64 s.la, .int .i64 s.sl, .int .i64 s.pl, .slice p n c]] w10 _ from HSM.out)
      go_wp2_with fail
      (with_reducible refine HSM.out.mono ?_)
      rintro e w11 ⟨rfl, f11⟩
      have H11 := Lib.hid (H10.out.2.trans f11 (by simp))
      clear f11 q5 q1
      go_wp2_with fail
      go_meet
      case rel => exact H11.out
    · have e1 : (E == 0) = false := by rw [beq_eq_false_iff_ne]; exact hE
      clear hE
      go_wp2_with fail
      go_meet
      case rel => exact H7.out.2
  case rest =>
    obtain ⟨wc0, hwc0⟩ : ∃ x : World, x = wc := ⟨_, rfl⟩
    rw [← hwc0] at hcut ⊢
    clear hwc0
    have HC := Lib.hid hcut
    clear hcut
    obtain ⟨G, hG⟩ : ∃ G, G = readC line := ⟨_, rfl⟩
    obtain ⟨r, hr⟩ : ∃ r, r = readL line := ⟨_, rfl⟩
    have HGR := Lib.hid (And.intro hG (And.intro hr (show StI r by rw [hr]; exact readL_sti line)))
    have HRD := Lib.hid (read_any wc0 line m (HM.out wc0 HC.out))
    have HRR := Lib.hid (fun W => rread_any W line)
    clear hG hr
    go_wp2_with fail
    (with_reducible refine HRD.out.mono ?_)
    rintro e w8 hq
    obtain ⟨p8, k8, rfl, hb8, f8⟩ := hq.uni
    rw [← HGR.out.1, ← HGR.out.2.1]
    rw [← HGR.out.2.1] at hb8
    have H8 := Lib.hid (show Fr [] w w8 ∧ BytV w8 wc0.heap.size (.slice p8 r.by'.length k8) r.by' from ⟨HC.out.trans f8 (by simp), hb8⟩)
    obtain ⟨n8, hn8⟩ : ∃ n8, n8 = r.by'.length := ⟨_, rfl⟩
    have HN8 := Lib.hid hn8
    rw [← hn8]
    clear hq hb8 f8 hn8
    obtain ⟨b12, hob⟩ : ∃ ob, ob = w8.heap.size := ⟨_, rfl⟩
    have hz := Blk.new_at hob #[.int .u8 0, .int .i64 0, .int .i64 0, .int .i64 0, .slice none 0 0] 44
    have q5 := hz.can5
    rw [hob] at q5
    have o1 : (Value.int .u8 r.kd).oneCell' = true := rfl
    have o2 : ∀ z : Int, (Value.int .i64 z).oneCell' = true := fun _ => rfl
    have o3 : (.slice p8 n8 k8 : Value).oneCell' = true := rfl
    obtain ⟨w12, hwn⟩ : ∃ w4, layS (w8.alloc (.cells #[.int .u8 0, .int .i64 0, .int .i64 0, .int .i64 0, .slice none 0 0] 44)) w8.heap.size (.int .u8 r.kd) (.int .i64 r.la) (.int .i64 r.sl) (.int .i64 r.pl) (.slice p8 n8 k8) = w4 := ⟨_, rfl⟩
    have hf : Fr [] w8 w12 := by rw [← hwn]; exact ((Fr.refl [] w8).alloc _).lay _ _ _ _ _ _ (.inr (Nat.le_refl _))
    have ho : Blk w12 b12 #[.int .u8 r.kd, .int .i64 r.la, .int .i64 r.sl, .int .i64 r.pl, .slice p8 n8 k8] 44 := by rw [← hwn, ← hob]; exact hz.lay _ _ _ _ _
    have HBb12 := Lib.hid (And.intro ho hf)
    have HOb12 := Lib.hid hob
    have HWb12 := Lib.hid hwn
    clear hz hob hwn hf ho
    go_upto_region 11 with fail
    rw [HWb12.out, ← HOb12.out]
    clear q5 o1 o2 o3
    have H12 := Lib.hid (show Fr [] w w12 ∧ BytV w12 wc0.heap.size (.slice p8 r.by'.length k8) r.by' from ⟨H8.out.1.trans HBb12.out.2 (by simp), H8.out.2.fr' HBb12.out.2 (by simp)⟩)
    go_wp2_with fail
    (with_reducible refine (HRR.out w12).mono ?_)
    rintro e w13 hq
    obtain ⟨p9, k9, rfl, hb9, f9⟩ := hq.uni
    rw [← HGR.out.1, ← HGR.out.2.1]
    rw [← HGR.out.2.1] at hb9
    have H13 := Lib.hid (show Fr [] w w13 ∧ BytV w13 w12.heap.size (.slice p9 r.by'.length k9) r.by' ∧ BytV w13 wc0.heap.size (.slice p8 r.by'.length k8) r.by' ∧ Blk w13 b12 _ 44 from ⟨H12.out.1.trans f9 (by simp), hb9, H12.out.2.fr' f9 (by simp), f9.blk HBb12.out.1 (by simp)⟩)
    rw [← HN8.out]
    clear hq hb9 f9
    obtain ⟨b14, hob⟩ : ∃ ob, ob = w13.heap.size := ⟨_, rfl⟩
    have hz := Blk.new_at hob #[.int .u8 0, .int .i64 0, .int .i64 0, .int .i64 0, .slice none 0 0] 44
    have q5 := hz.can5
    rw [hob] at q5
    have o1 : (Value.int .u8 r.kd).oneCell' = true := rfl
    have o2 : ∀ z : Int, (Value.int .i64 z).oneCell' = true := fun _ => rfl
    have o3 : (.slice p9 n8 k9 : Value).oneCell' = true := rfl
    obtain ⟨w14, hwn⟩ : ∃ w4, layS (w13.alloc (.cells #[.int .u8 0, .int .i64 0, .int .i64 0, .int .i64 0, .slice none 0 0] 44)) w13.heap.size (.int .u8 r.kd) (.int .i64 r.la) (.int .i64 r.sl) (.int .i64 r.pl) (.slice p9 n8 k9) = w4 := ⟨_, rfl⟩
    have hf : Fr [] w13 w14 := by rw [← hwn]; exact ((Fr.refl [] w13).alloc _).lay _ _ _ _ _ _ (.inr (Nat.le_refl _))
    have ho : Blk w14 b14 #[.int .u8 r.kd, .int .i64 r.la, .int .i64 r.sl, .int .i64 r.pl, .slice p9 n8 k9] 44 := by rw [← hwn, ← hob]; exact hz.lay _ _ _ _ _
    have HBb14 := Lib.hid (And.intro ho hf)
    have HOb14 := Lib.hid hob
    have HWb14 := Lib.hid hwn
    clear hz hob hwn hf ho
    go_upto_region 12 with fail
    rw [HWb14.out, ← HOb14.out]
    clear q5 o1 o2 o3
    have H14 := Lib.hid (show Fr [] w w14 ∧ BytV w14 w12.heap.size (.slice p9 r.by'.length k9) r.by' ∧ BytV w14 wc0.heap.size (.slice p8 r.by'.length k8) r.by' ∧ Blk w14 b12 #[.int .u8 r.kd, .int .i64 r.la, .int .i64 r.sl, .int .i64 r.pl, .slice p8 n8 k8] 44 from ⟨H13.out.1.trans HBb14.out.2 (by simp), H13.out.2.1.fr' HBb14.out.2 (by simp), H13.out.2.2.1.fr' HBb14.out.2 (by simp), HBb14.out.2.blk H13.out.2.2.2 (by simp)⟩)
    have q5 := HBb14.out.1.st
    have q1 := H14.out.2.2.2.st
    have ex : (G != G) = false := by simp
    have HSM := Lib.hid (same_step_any w14 r r (.slice p8 n8 k8) (.slice p9 n8 k9) (Rd.of_own (by rw [HN8.out]; exact H14.out.2.2.1.1)) (Rd.of_own (by rw [HN8.out]; exact H14.out.2.1.1)) HGR.out.2.2.2.2.2.2 HGR.out.2.2.2.2.2.2)
    rw [decide_eq_true rfl] at HSM
    replace HSM := Lib.hid (show Calls Tryd.prog 15 #[.agg #[.int .u8 r.kd, .int .i64 r.la, .int .i64 r.sl, .int .i64 r.pl, .slice p8 n8 k8], .agg #[.int .u8 r.kd, .int .i64 r.la, .int .i64 r.sl, .int .i64 r.pl, .slice p9 n8 k9]] w14 _ from HSM.out)
    go_wp2_with fail
    (with_reducible refine HSM.out.mono ?_)
    rintro e w15 ⟨rfl, f15⟩
    have H15 := Lib.hid (show Fr [] w w15 ∧ BytV w15 wc0.heap.size (.slice p8 r.by'.length k8) r.by' ∧ Blk w15 b12 #[.int .u8 r.kd, .int .i64 r.la, .int .i64 r.sl, .int .i64 r.pl, .slice p8 n8 k8] 44 from ⟨H14.out.1.trans f15 (by simp), H14.out.2.2.1.fr' f15 (by simp), f15.blk H14.out.2.2.2 (by simp)⟩)
    clear f15 q5 q1 ex
    by_cases hg : G = 0
    · have e1 : (G != 0) = false := by rw [hg]; rfl
      have HRL := Lib.hid (show lineE r = 0 ∧ lineX r = line from by
        have := read_line (t := line) (by rw [← HGR.out.1]; exact hg)
        rw [HGR.out.2.1]
        exact ⟨this.1, this.2.1⟩)
      have HSL := Lib.hid (sline_any w15 r p8 k8 HGR.out.2.2 (HTB.out.fr H15.out.1 (by simp)) (Rd.of_own H15.out.2.1.1))
      rw [HRL.out.1, HRL.out.2, ← HN8.out] at HSL
      replace HSL := Lib.hid (show Calls Tryd.prog 11 #[.agg #[.int .u8 r.kd, .int .i64 r.la, .int .i64 r.sl, .int .i64 r.pl, .slice p8 n8 k8]] w15 _ from HSL.out)
      have q1 := H15.out.2.2.st
      have e3 : (line.toList == line.toList) = true := by simp
      clear hg
      go_wp2_with fail
      (with_reducible refine HSL.out.mono ?_)
      rintro e w16 ⟨rfl, f16⟩
      have H16 := Lib.hid (H15.out.1.trans f16 (by simp))
      clear f16 q1
      go_wp2
      go_ret
      exact ⟨rfl, H16.out⟩
    · have e1 : (G != 0) = true := by rw [bne_iff_ne]; exact hg
      clear hg
      go_wp2
      go_ret
      exact ⟨rfl, H15.out.1⟩
end Sc
end Go.Proofs.YtbpgpjibljgiiaaDoor
