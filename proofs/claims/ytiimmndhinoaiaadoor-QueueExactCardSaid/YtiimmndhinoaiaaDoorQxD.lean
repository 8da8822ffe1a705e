/-
  QueueExact: does: a step on the three rings. Printed by genQx.py.
-/
import Derived.Test.YtiimmndhinoaiaaDoorQxC
import Derived.Test.YtiimmndhinoaiaaDoorRegT
import Derived.Test.YtiimmndhinoaiaaDoorRegI
import Derived.Test.YtiimmndhinoaiaaDoorPrL
import Derived.Deep.CutBlock
namespace Go.Proofs.YtiimmndhinoaiaaDoor
open Go.RowKit Go.Shelf ring
set_option linter.unusedVariables false
set_option linter.unusedSimpArgs false
attribute [local go_sem] Oper.semAt_some
namespace Qu
attribute [local go_sem ↓] newVar65
attribute [local go_sem] pr_layPr_same can_new run_storePr0 run_newPr run_newPr'
set_option maxRecDepth 100000 in
set_option maxHeartbeats 4000000 in
theorem qdoes_else (w : World) (b g c d r k : Nat) (vr : Value) (V : List Int) (M : RM) (kd on sv si : Int) (h : TQ w b g c d r vr V M) (hF : FineQ k V M) (hk : k ≤ 4398046511104) (hT : TB w) (hv : I64 sv) (hz0 : 0 ∉ [b, g, c, d, r]) (n1 : kd ≠ 1) (n2 : kd ≠ 2) (n3 : kd ≠ 3) (n4 : kd ≠ 4) (n5 : kd ≠ 5) (n6 : kd ≠ 6) (n7 : kd ≠ 7) (n8 : kd ≠ 8) (n9 : kd ≠ 9) :
    Calls Tryd.prog 23 #[.pointer (some ⟨b, 0, none⟩), .pointer (some ⟨c, 0, none⟩), .pointer (some ⟨r, 0, none⟩), .agg #[.int .i64 kd, .int .i64 on, .int .i64 sv, .int .i64 si]] w (QDoes w b g c d r vr k) := by
  obtain ⟨bs, hbs⟩ : ∃ bs, bs = w.heap.size := ⟨_, rfl⟩
  obtain ⟨w1, hw1⟩ : ∃ w1, (w.alloc (.cells #[.int .i64 kd, .int .i64 on, .int .i64 sv, .int .i64 si] 69)).alloc (.cells #[.int .i64 0, .float .f64 0] 65) = w1 := ⟨_, rfl⟩
  have F1 : Fr [] w w1 := by rw [← hw1]; exact ((Fr.refl _ _).alloc _).alloc _
  have hb : Blk w1 bs #[.int .i64 kd, .int .i64 on, .int .i64 sv, .int .i64 si] 69 := by rw [← hw1, hbs]; exact (Blk.new w _ _).alloc _
  have hzb : Blk w1 (bs + 1) (pcells 0).toArray 65 := by rw [← hw1, hbs]; exact Blk.new_at (by simp) _ _
  have d0 := hb.at 0 (v := .int .i64 kd) rfl
  have d2 := hb.at 2 (v := .int .i64 sv) rfl
  have d3 := hb.at 3 (v := .int .i64 si) rfl
  have hTQ := h.fr0 F1
  have hlts := h.lts
  have HS := Lib.hid (And.intro hTQ (And.intro F1 (And.intro (hT.fr F1 (by simp)) hz0)))
  have HQ := Lib.hid (And.intro hb (And.intro hzb (show bs + 1 ∉ [b, g, c, d, r] ∧ bs ∉ [b, g, c, d, r] ∧ bs + 1 ∉ vr.ownBlock.toList from ⟨fun hm => by have := hlts _ hm; omega, fun hm => by have := hlts _ hm; omega, fun hm => by have := own_lt h.r.own (by simpa using hm); omega⟩)))
  have HF := Lib.hid (show QDoes w b g c d r vr k (.returned (.bool true)) w1 from ⟨rfl, V, M, QLeft.back F1 (QLeft.refl hTQ (Fr.refl _ _)), hF.up⟩)
  have HW1 := Lib.hid hw1
  have HBS := Lib.hid hbs
  clear h F1 hb hzb hTQ hlts hT hz0 hw1 hbs
  go_enter Tryd.func23, Tryd.ntmps23
  go_upto_region 5 with fail
  rw [HW1.out]
  simp only [← HBS.out]
  clear HW1
  go_wp2_with fail
  refine bodyPost_ret (v := .bool true) (by simp [results, Tryd.results23, go_sem]) rfl HF.out
set_option maxRecDepth 100000 in
set_option maxHeartbeats 4000000 in
theorem qdoes_books (w : World) (b g c d r k : Nat) (vr : Value) (V : List Int) (M : RM) (on sv si : Int) (h : TQ w b g c d r vr V M) (hF : FineQ k V M) (hk : k ≤ 4398046511104) (hT : TB w) (hv : I64 sv) (hz0 : 0 ∉ [b, g, c, d, r]) :
    Calls Tryd.prog 23 #[.pointer (some ⟨b, 0, none⟩), .pointer (some ⟨c, 0, none⟩), .pointer (some ⟨r, 0, none⟩), .agg #[.int .i64 7, .int .i64 on, .int .i64 sv, .int .i64 si]] w (QDoes w b g c d r vr k) := by
  obtain ⟨bs, hbs⟩ : ∃ bs, bs = w.heap.size := ⟨_, rfl⟩
  obtain ⟨w1, hw1⟩ : ∃ w1, (w.alloc (.cells #[.int .i64 7, .int .i64 on, .int .i64 sv, .int .i64 si] 69)).alloc (.cells #[.int .i64 0, .float .f64 0] 65) = w1 := ⟨_, rfl⟩
  have F1 : Fr [] w w1 := by rw [← hw1]; exact ((Fr.refl _ _).alloc _).alloc _
  have hb : Blk w1 bs #[.int .i64 7, .int .i64 on, .int .i64 sv, .int .i64 si] 69 := by rw [← hw1, hbs]; exact (Blk.new w _ _).alloc _
  have hzb : Blk w1 (bs + 1) (pcells 0).toArray 65 := by rw [← hw1, hbs]; exact Blk.new_at (by simp) _ _
  have d0 := hb.at 0 (v := .int .i64 7) rfl
  have d2 := hb.at 2 (v := .int .i64 sv) rfl
  have d3 := hb.at 3 (v := .int .i64 si) rfl
  have hTQ := h.fr0 F1
  have hlts := h.lts
  have HS := Lib.hid (And.intro hTQ (And.intro F1 (And.intro (hT.fr F1 (by simp)) hz0)))
  have HQ := Lib.hid (And.intro hb (And.intro hzb (show bs + 1 ∉ [b, g, c, d, r] ∧ bs ∉ [b, g, c, d, r] ∧ bs + 1 ∉ vr.ownBlock.toList from ⟨fun hm => by have := hlts _ hm; omega, fun hm => by have := hlts _ hm; omega, fun hm => by have := own_lt h.r.own (by simpa using hm); omega⟩)))
  have HB := Lib.hid (qbooks_any w1 b g c d r vr V M hTQ)
  have HF := Lib.hid hF.up
  have HW1 := Lib.hid hw1
  have HBS := Lib.hid hbs
  clear h F1 hb hzb hTQ hlts hT hz0 hw1 hbs
  go_enter Tryd.func23, Tryd.ntmps23
  go_upto_region 5 with fail
  rw [HW1.out]
  simp only [← HBS.out]
  clear HW1
  go_wp2_with fail
  (with_reducible refine HB.out.mono ?_)
  rintro e w2 ⟨rfl, f2⟩
  have HR := Lib.hid (show QDoes w b g c d r vr k (.returned (.bool true)) w2 from ⟨rfl, V, M, QLeft.back HS.out.2.1 (QLeft.refl HS.out.1 f2), HF.out⟩)
  clear f2
  go_wp2
  go_ret
  exact HR.out
set_option maxRecDepth 100000 in
set_option maxHeartbeats 4000000 in
theorem qdoes_drop (w : World) (b g c d r k : Nat) (vr : Value) (V : List Int) (M : RM) (on sv si : Int) (h : TQ w b g c d r vr V M) (hF : FineQ k V M) (hk : k ≤ 4398046511104) (hT : TB w) (hv : I64 sv) (hz0 : 0 ∉ [b, g, c, d, r]) :
    Calls Tryd.prog 23 #[.pointer (some ⟨b, 0, none⟩), .pointer (some ⟨c, 0, none⟩), .pointer (some ⟨r, 0, none⟩), .agg #[.int .i64 6, .int .i64 on, .int .i64 sv, .int .i64 si]] w (QDoes w b g c d r vr k) := by
  obtain ⟨bs, hbs⟩ : ∃ bs, bs = w.heap.size := ⟨_, rfl⟩
  obtain ⟨w1, hw1⟩ : ∃ w1, (w.alloc (.cells #[.int .i64 6, .int .i64 on, .int .i64 sv, .int .i64 si] 69)).alloc (.cells #[.int .i64 0, .float .f64 0] 65) = w1 := ⟨_, rfl⟩
  have F1 : Fr [] w w1 := by rw [← hw1]; exact ((Fr.refl _ _).alloc _).alloc _
  have hb : Blk w1 bs #[.int .i64 6, .int .i64 on, .int .i64 sv, .int .i64 si] 69 := by rw [← hw1, hbs]; exact (Blk.new w _ _).alloc _
  have hzb : Blk w1 (bs + 1) (pcells 0).toArray 65 := by rw [← hw1, hbs]; exact Blk.new_at (by simp) _ _
  have d0 := hb.at 0 (v := .int .i64 6) rfl
  have d2 := hb.at 2 (v := .int .i64 sv) rfl
  have d3 := hb.at 3 (v := .int .i64 si) rfl
  have hTQ := h.fr0 F1
  have hlts := h.lts
  have HS := Lib.hid (And.intro hTQ (And.intro F1 (And.intro (hT.fr F1 (by simp)) hz0)))
  have HQ := Lib.hid (And.intro hb (And.intro hzb (show bs + 1 ∉ [b, g, c, d, r] ∧ bs ∉ [b, g, c, d, r] ∧ bs + 1 ∉ vr.ownBlock.toList from ⟨fun hm => by have := hlts _ hm; omega, fun hm => by have := hlts _ hm; omega, fun hm => by have := own_lt h.r.own (by simpa using hm); omega⟩)))
  obtain ⟨V', M', n, hpk, hfin, H3⟩ := drop_three hTQ hF hk si
  have HX := Lib.hid (And.intro hpk hfin)
  have H3 := Lib.hid H3
  clear hpk hfin hF hk
  have HW1 := Lib.hid hw1
  have HBS := Lib.hid hbs
  clear hv h F1 hb hzb hTQ hlts hT hz0 hw1 hbs
  go_enter Tryd.func23, Tryd.ntmps23
  go_upto_region 5 with fail
  rw [HW1.out]
  simp only [← HBS.out]
  clear HW1
  go_wp2_with fail
  clear d0 d2 d3
  (with_reducible refine (H3.out.1 w1 vr HS.out.1.r).mono ?_)
  rintro e W1 q1
  have h1 := q1
  obtain ⟨rfl, v1, hr1, a1, F1⟩ := h1
  have hb1 := F1.blk HQ.out.1 (fun hm => HQ.out.2.2.2.1 (by simp at hm; simp [hm]))
  have HA := Lib.hid (And.intro q1 (And.intro F1 hb1))
  have d2 := (hb1).at 2 (v := .int .i64 sv) rfl
  have d3 := (hb1).at 3 (v := .int .i64 si) rfl
  have hF1 := F1
  clear q1 hr1 a1 F1 hb1
  obtain ⟨⟨n1, n2, n3⟩, ⟨n4, n5, n6⟩, ⟨n7, n8⟩, nv⟩ := HS.out.1.ne
  obtain ⟨Cs, kf, hp⟩ := HS.out.1.p_at hF1 (by simpa using n3) (by simpa using n6)
  have HP := Lib.hid (H3.out.2.1 W1 g Cs kf hp)
  have HF1 := Lib.hid hF1
  clear hF1 hp n1 n2 n3 n4 n5 n6 n7 n8 nv
  go_wp2_with fail
  (with_reducible refine HP.out.mono ?_)
  rintro e W2 q2
  have h2 := q2
  obtain ⟨rfl, g', Cs', kf', hp', a2, F2⟩ := h2
  have hF2 : Fr [r, b, g] w1 W2 := (HF1.out.mono (by simp)).trans F2 (by simp)
  obtain ⟨⟨n1, n2, n3⟩, ⟨n4, n5, n6⟩, ⟨n7, n8⟩, nv⟩ := HS.out.1.ne
  obtain ⟨Ds, jf, hq⟩ := HS.out.1.q_at hF2 (by simp; exact ⟨n7, Ne.symm n1, Ne.symm n4⟩) (by simp; exact ⟨n8, Ne.symm n2, Ne.symm n5⟩)
  have HP2 := Lib.hid (H3.out.2.2 W2 d Ds jf hq)
  have hb2 := hF2.blk HQ.out.1 (fun hm => HQ.out.2.2.2.1 (by simp at hm; rcases hm with hm | hm | hm <;> simp [hm]))
  clear d2 d3
  have d2 := (hb2).at 2 (v := .int .i64 sv) rfl
  have d3 := (hb2).at 3 (v := .int .i64 si) rfl
  have HB := Lib.hid q2
  clear q2 hp' a2 F2 hF2 hq hb2 n1 n2 n3 n4 n5 n6 n7 n8 nv
  go_wp2_with fail
  (with_reducible refine HP2.out.mono ?_)
  rintro e W3 q3
  have h3 := q3
  obtain ⟨rfl, -⟩ := h3
  have HR := Lib.hid (show QDoes w b g c d r vr k (.returned (.bool true)) W3 from ⟨rfl, V', M', QLeft.back HS.out.2.1 (chain_rpq HS.out.1 HA.out.1 (Fr.refl _ _) HB.out (Fr.refl _ _) q3 HX.out.1), HX.out.2⟩)
  clear q3 d2 d3
  go_wp2
  go_ret
  exact HR.out
set_option maxRecDepth 100000 in
set_option maxHeartbeats 4000000 in
theorem qdoes_mark (w : World) (b g c d r k : Nat) (vr : Value) (V : List Int) (M : RM) (on sv si : Int) (h : TQ w b g c d r vr V M) (hF : FineQ k V M) (hk : k ≤ 4398046511104) (hT : TB w) (hv : I64 sv) (hz0 : 0 ∉ [b, g, c, d, r]) :
    Calls Tryd.prog 23 #[.pointer (some ⟨b, 0, none⟩), .pointer (some ⟨c, 0, none⟩), .pointer (some ⟨r, 0, none⟩), .agg #[.int .i64 8, .int .i64 on, .int .i64 sv, .int .i64 si]] w (QDoes w b g c d r vr k) := by
  obtain ⟨bs, hbs⟩ : ∃ bs, bs = w.heap.size := ⟨_, rfl⟩
  obtain ⟨w1, hw1⟩ : ∃ w1, (w.alloc (.cells #[.int .i64 8, .int .i64 on, .int .i64 sv, .int .i64 si] 69)).alloc (.cells #[.int .i64 0, .float .f64 0] 65) = w1 := ⟨_, rfl⟩
  have F1 : Fr [] w w1 := by rw [← hw1]; exact ((Fr.refl _ _).alloc _).alloc _
  have hb : Blk w1 bs #[.int .i64 8, .int .i64 on, .int .i64 sv, .int .i64 si] 69 := by rw [← hw1, hbs]; exact (Blk.new w _ _).alloc _
  have hzb : Blk w1 (bs + 1) (pcells 0).toArray 65 := by rw [← hw1, hbs]; exact Blk.new_at (by simp) _ _
  have d0 := hb.at 0 (v := .int .i64 8) rfl
  have d2 := hb.at 2 (v := .int .i64 sv) rfl
  have d3 := hb.at 3 (v := .int .i64 si) rfl
  have hTQ := h.fr0 F1
  have hlts := h.lts
  have HS := Lib.hid (And.intro hTQ (And.intro F1 (And.intro (hT.fr F1 (by simp)) hz0)))
  have HQ := Lib.hid (And.intro hb (And.intro hzb (show bs + 1 ∉ [b, g, c, d, r] ∧ bs ∉ [b, g, c, d, r] ∧ bs + 1 ∉ vr.ownBlock.toList from ⟨fun hm => by have := hlts _ hm; omega, fun hm => by have := hlts _ hm; omega, fun hm => by have := own_lt h.r.own (by simpa using hm); omega⟩)))
  obtain ⟨V', M', n, hpk, hfin, H3⟩ := mark_three hTQ hF hk sv si
  have HX := Lib.hid (And.intro hpk hfin)
  have H3 := Lib.hid H3
  clear hpk hfin hF hk
  have HW1 := Lib.hid hw1
  have HBS := Lib.hid hbs
  clear hv h F1 hb hzb hTQ hlts hT hz0 hw1 hbs
  go_enter Tryd.func23, Tryd.ntmps23
  go_upto_region 5 with fail
  rw [HW1.out]
  simp only [← HBS.out]
  clear HW1
  go_wp2_with fail
  clear d0 d2 d3
  (with_reducible refine (H3.out.1 w1 vr HS.out.1.r).mono ?_)
  rintro e W1 q1
  have h1 := q1
  obtain ⟨rfl, v1, hr1, a1, F1⟩ := h1
  have hb1 := F1.blk HQ.out.1 (fun hm => HQ.out.2.2.2.1 (by simp at hm; simp [hm]))
  have HA := Lib.hid (And.intro q1 (And.intro F1 hb1))
  have d2 := (hb1).at 2 (v := .int .i64 sv) rfl
  have d3 := (hb1).at 3 (v := .int .i64 si) rfl
  have hF1 := F1
  clear q1 hr1 a1 F1 hb1
  obtain ⟨⟨n1, n2, n3⟩, ⟨n4, n5, n6⟩, ⟨n7, n8⟩, nv⟩ := HS.out.1.ne
  obtain ⟨Cs, kf, hp⟩ := HS.out.1.p_at hF1 (by simpa using n3) (by simpa using n6)
  have HP := Lib.hid (H3.out.2.1 W1 g Cs kf hp)
  have HF1 := Lib.hid hF1
  clear hF1 hp n1 n2 n3 n4 n5 n6 n7 n8 nv
  go_wp2_with fail
  (with_reducible refine HP.out.mono ?_)
  rintro e W2 q2
  have h2 := q2
  obtain ⟨rfl, g', Cs', kf', hp', a2, F2⟩ := h2
  have hF2 : Fr [r, b, g] w1 W2 := (HF1.out.mono (by simp)).trans F2 (by simp)
  obtain ⟨⟨n1, n2, n3⟩, ⟨n4, n5, n6⟩, ⟨n7, n8⟩, nv⟩ := HS.out.1.ne
  obtain ⟨Ds, jf, hq⟩ := HS.out.1.q_at hF2 (by simp; exact ⟨n7, Ne.symm n1, Ne.symm n4⟩) (by simp; exact ⟨n8, Ne.symm n2, Ne.symm n5⟩)
  have HP2 := Lib.hid (H3.out.2.2 W2 d Ds jf hq)
  have hb2 := hF2.blk HQ.out.1 (fun hm => HQ.out.2.2.2.1 (by simp at hm; rcases hm with hm | hm | hm <;> simp [hm]))
  clear d2 d3
  have d2 := (hb2).at 2 (v := .int .i64 sv) rfl
  have d3 := (hb2).at 3 (v := .int .i64 si) rfl
  have HB := Lib.hid q2
  clear q2 hp' a2 F2 hF2 hq hb2 n1 n2 n3 n4 n5 n6 n7 n8 nv
  go_wp2_with fail
  (with_reducible refine HP2.out.mono ?_)
  rintro e W3 q3
  have h3 := q3
  obtain ⟨rfl, -⟩ := h3
  have HR := Lib.hid (show QDoes w b g c d r vr k (.returned (.bool true)) W3 from ⟨rfl, V', M', QLeft.back HS.out.2.1 (chain_rpq HS.out.1 HA.out.1 (Fr.refl _ _) HB.out (Fr.refl _ _) q3 HX.out.1), HX.out.2⟩)
  clear q3 d2 d3
  go_wp2
  go_ret
  exact HR.out
set_option maxRecDepth 100000 in
set_option maxHeartbeats 4000000 in
theorem qdoes_push (w : World) (b g c d r k : Nat) (vr : Value) (V : List Int) (M : RM) (on sv si : Int) (h : TQ w b g c d r vr V M) (hF : FineQ k V M) (hk : k ≤ 4398046511104) (hT : TB w) (hv : I64 sv) (hz0 : 0 ∉ [b, g, c, d, r]) :
    Calls Tryd.prog 23 #[.pointer (some ⟨b, 0, none⟩), .pointer (some ⟨c, 0, none⟩), .pointer (some ⟨r, 0, none⟩), .agg #[.int .i64 1, .int .i64 on, .int .i64 sv, .int .i64 si]] w (QDoes w b g c d r vr k) := by
  obtain ⟨bs, hbs⟩ : ∃ bs, bs = w.heap.size := ⟨_, rfl⟩
  obtain ⟨w1, hw1⟩ : ∃ w1, (w.alloc (.cells #[.int .i64 1, .int .i64 on, .int .i64 sv, .int .i64 si] 69)).alloc (.cells #[.int .i64 0, .float .f64 0] 65) = w1 := ⟨_, rfl⟩
  have F1 : Fr [] w w1 := by rw [← hw1]; exact ((Fr.refl _ _).alloc _).alloc _
  have hb : Blk w1 bs #[.int .i64 1, .int .i64 on, .int .i64 sv, .int .i64 si] 69 := by rw [← hw1, hbs]; exact (Blk.new w _ _).alloc _
  have hzb : Blk w1 (bs + 1) (pcells 0).toArray 65 := by rw [← hw1, hbs]; exact Blk.new_at (by simp) _ _
  have d0 := hb.at 0 (v := .int .i64 1) rfl
  have d2 := hb.at 2 (v := .int .i64 sv) rfl
  have d3 := hb.at 3 (v := .int .i64 si) rfl
  have hTQ := h.fr0 F1
  have hlts := h.lts
  have HS := Lib.hid (And.intro hTQ (And.intro F1 (And.intro (hT.fr F1 (by simp)) hz0)))
  have HQ := Lib.hid (And.intro hb (And.intro hzb (show bs + 1 ∉ [b, g, c, d, r] ∧ bs ∉ [b, g, c, d, r] ∧ bs + 1 ∉ vr.ownBlock.toList from ⟨fun hm => by have := hlts _ hm; omega, fun hm => by have := hlts _ hm; omega, fun hm => by have := own_lt h.r.own (by simpa using hm); omega⟩)))
  obtain ⟨V', M', er, hpk, hfin, H3⟩ := push_three hTQ hF hk sv hv
  have HX := Lib.hid (And.intro hpk hfin)
  have H3 := Lib.hid H3
  clear hpk hfin hF hk
  have HW1 := Lib.hid hw1
  have HBS := Lib.hid hbs
  clear h F1 hb hzb hTQ hlts hT hz0 hw1 hbs
  go_enter Tryd.func23, Tryd.ntmps23
  go_upto_region 5 with fail
  rw [HW1.out]
  simp only [← HBS.out]
  clear HW1
  go_wp2_with fail
  clear d0 d2 d3
  (with_reducible refine (H3.out.1 w1 vr HS.out.1.r).mono ?_)
  rintro e W1 q1
  have h1 := q1
  obtain ⟨rfl, v1, hr1, a1, F1⟩ := h1
  have hb1 := F1.blk HQ.out.1 (fun hm => HQ.out.2.2.2.1 (by simp at hm; simp [hm]))
  have HA := Lib.hid (And.intro q1 (And.intro F1 hb1))
  have d2 := (hb1).at 2 (v := .int .i64 sv) rfl
  have d3 := (hb1).at 3 (v := .int .i64 si) rfl
  have HTX := Lib.hid (qtext_any W1 sv hv (HS.out.2.2.1.fr F1 (fun hm => HS.out.2.2.2 (by simp at hm; simp [hm]))))
  clear q1 hr1 a1 F1 hb1
  generalize hqs : qtx sv = qs at *
  go_wp2_with fail
  (with_reducible refine HTX.out.mono ?_)
  rintro e W1' ⟨rfl, f1⟩
  have hF1 := HA.out.2.1.trans f1 (by simp)
  obtain ⟨⟨n1, n2, n3⟩, ⟨n4, n5, n6⟩, ⟨n7, n8⟩, nv⟩ := HS.out.1.ne
  obtain ⟨Cs, kf, hp⟩ := HS.out.1.p_at hF1 (by simpa using n3) (by simpa using n6)
  have HP := Lib.hid (H3.out.2.1 W1' g Cs kf hp)
  have HF1 := Lib.hid hF1
  clear hF1 hp n1 n2 n3 n4 n5 n6 n7 n8 nv
  have Hf1 := Lib.hid f1
  clear f1 d2 d3
  have d2 := (HF1.out.blk HQ.out.1 (fun hm => HQ.out.2.2.2.1 (by simp at hm; simp [hm]))).at 2 (v := .int .i64 sv) rfl
  have d3 := (HF1.out.blk HQ.out.1 (fun hm => HQ.out.2.2.2.1 (by simp at hm; simp [hm]))).at 3 (v := .int .i64 si) rfl
  go_wp2_with fail
  (with_reducible refine HP.out.mono ?_)
  rintro e W2 q2
  have h2 := q2
  obtain ⟨rfl, g', Cs', kf', hp', a2, F2⟩ := h2
  have hF2 : Fr [r, b, g] w1 W2 := (HF1.out.mono (by simp)).trans F2 (by simp)
  obtain ⟨⟨n1, n2, n3⟩, ⟨n4, n5, n6⟩, ⟨n7, n8⟩, nv⟩ := HS.out.1.ne
  obtain ⟨Ds, jf, hq⟩ := HS.out.1.q_at hF2 (by simp; exact ⟨n7, Ne.symm n1, Ne.symm n4⟩) (by simp; exact ⟨n8, Ne.symm n2, Ne.symm n5⟩)
  have HP2 := Lib.hid (H3.out.2.2 W2 d Ds jf hq)
  have hb2 := hF2.blk HQ.out.1 (fun hm => HQ.out.2.2.2.1 (by simp at hm; rcases hm with hm | hm | hm <;> simp [hm]))
  clear d2 d3
  have d2 := (hb2).at 2 (v := .int .i64 sv) rfl
  have d3 := (hb2).at 3 (v := .int .i64 si) rfl
  have HB := Lib.hid q2
  clear q2 hp' a2 F2 hF2 hq hb2 n1 n2 n3 n4 n5 n6 n7 n8 nv
  go_wp2_with fail
  (with_reducible refine HP2.out.mono ?_)
  rintro e W3 q3
  have h3 := q3
  obtain ⟨rfl, -⟩ := h3
  have HR := Lib.hid (show QDoes w b g c d r vr k (.returned (.bool true)) W3 from ⟨rfl, V', M', QLeft.back HS.out.2.1 (chain_rpq HS.out.1 HA.out.1 Hf1.out HB.out (Fr.refl _ _) q3 HX.out.1), HX.out.2⟩)
  clear q3 d2 d3
  go_wp2
  go_ret
  exact HR.out
set_option maxRecDepth 100000 in
set_option maxHeartbeats 4000000 in
theorem qdoes_pop (w : World) (b g c d r k : Nat) (vr : Value) (V : List Int) (M : RM) (on sv si : Int) (h : TQ w b g c d r vr V M) (hF : FineQ k V M) (hk : k ≤ 4398046511104) (hT : TB w) (hv : I64 sv) (hz0 : 0 ∉ [b, g, c, d, r]) :
    Calls Tryd.prog 23 #[.pointer (some ⟨b, 0, none⟩), .pointer (some ⟨c, 0, none⟩), .pointer (some ⟨r, 0, none⟩), .agg #[.int .i64 2, .int .i64 on, .int .i64 sv, .int .i64 si]] w (QDoes w b g c d r vr k) := by
  obtain ⟨bs, hbs⟩ : ∃ bs, bs = w.heap.size := ⟨_, rfl⟩
  obtain ⟨w1, hw1⟩ : ∃ w1, (w.alloc (.cells #[.int .i64 2, .int .i64 on, .int .i64 sv, .int .i64 si] 69)).alloc (.cells #[.int .i64 0, .float .f64 0] 65) = w1 := ⟨_, rfl⟩
  have F1 : Fr [] w w1 := by rw [← hw1]; exact ((Fr.refl _ _).alloc _).alloc _
  have hb : Blk w1 bs #[.int .i64 2, .int .i64 on, .int .i64 sv, .int .i64 si] 69 := by rw [← hw1, hbs]; exact (Blk.new w _ _).alloc _
  have hzb : Blk w1 (bs + 1) (pcells 0).toArray 65 := by rw [← hw1, hbs]; exact Blk.new_at (by simp) _ _
  have d0 := hb.at 0 (v := .int .i64 2) rfl
  have d2 := hb.at 2 (v := .int .i64 sv) rfl
  have d3 := hb.at 3 (v := .int .i64 si) rfl
  have hTQ := h.fr0 F1
  have hlts := h.lts
  have HS := Lib.hid (And.intro hTQ (And.intro F1 (And.intro (hT.fr F1 (by simp)) hz0)))
  have HQ := Lib.hid (And.intro hb (And.intro hzb (show bs + 1 ∉ [b, g, c, d, r] ∧ bs ∉ [b, g, c, d, r] ∧ bs + 1 ∉ vr.ownBlock.toList from ⟨fun hm => by have := hlts _ hm; omega, fun hm => by have := hlts _ hm; omega, fun hm => by have := own_lt h.r.own (by simpa using hm); omega⟩)))
  obtain ⟨V', M', x, ok, hpk, hfin, hx, H3⟩ := pop_three hTQ hF hk 
  have HX := Lib.hid (And.intro hpk hfin)
  have HXI := Lib.hid hx
  have H3 := Lib.hid H3
  have HBS2 := Lib.hid hbs
  clear hpk hfin hF hk hx
  have HW1 := Lib.hid hw1
  have HBS := Lib.hid hbs
  clear hv h F1 hb hzb hTQ hlts hT hz0 hw1 hbs
  go_enter Tryd.func23, Tryd.ntmps23
  go_upto_region 5 with fail
  rw [HW1.out]
  simp only [← HBS.out]
  clear HW1
  go_wp2_with fail
  clear d0 d2 d3
  obtain ⟨Cs, kf, hp⟩ := HS.out.1.p
  (with_reducible refine (H3.out.2.1 w1 g Cs kf hp).mono ?_)
  rintro e W1 q1
  have h1 := q1
  obtain ⟨rfl, g', Cs', kf', hp', a1, F1⟩ := h1
  have hb1 := F1.blk HQ.out.1 (fun hm => HQ.out.2.2.2.1 (by simp at hm; rcases hm with hm | hm <;> simp [hm]))
  obtain ⟨⟨n1, n2, n3⟩, ⟨n4, n5, n6⟩, ⟨n7, n8⟩, nv⟩ := HS.out.1.ne
  obtain ⟨Ds, jf, hq⟩ := HS.out.1.q_at F1 (notin2 (Ne.symm n1) (Ne.symm n4)) (notin2 (Ne.symm n2) (Ne.symm n5))
  have HP2 := Lib.hid (H3.out.2.2 W1 d Ds jf hq)
  have HA := Lib.hid (And.intro q1 F1)
  have d2 := (hb1).at 2 (v := .int .i64 sv) rfl
  have d3 := (hb1).at 3 (v := .int .i64 si) rfl
  clear q1 hp' a1 F1 hb1 hp hq n1 n2 n3 n4 n5 n6 n7 n8 nv
  go_wp2_with fail
  (with_reducible refine HP2.out.mono ?_)
  rintro e W2 q2
  have h2 := q2
  obtain ⟨rfl, d', Ds', jf', hq', a2, F2⟩ := h2
  have hF2 : Fr [b, g, c, d] w1 W2 := (HA.out.2.mono (by simp)).trans F2 (by simp)
  have hz2 := hF2.blk HQ.out.2.1 (fun hm => HQ.out.2.2.1 (by simp at hm; rcases hm with hm | hm | hm | hm <;> simp [hm]))
  have hb2 := hF2.blk HQ.out.1 (fun hm => HQ.out.2.2.2.1 (by simp at hm; rcases hm with hm | hm | hm | hm <;> simp [hm]))
  have zc := hz2.prOneCan
  have hnb : bs ≠ bs + 1 := by omega
  have HB := Lib.hid (And.intro q2 (And.intro hF2 (And.intro hz2 hb2)))
  clear d2 d3
  have d2 := (hb2).at 2 (v := .int .i64 sv) rfl
  have d3 := (hb2).at 3 (v := .int .i64 si) rfl
  clear q2 hq' a2 F2 hF2 hz2 hb2
  go_upto_region 13 with fail
  generalize hw3 : layPr W2 (bs + 1) 0 x = W3
  have f3 : Fr [bs + 1] W2 W3 := by rw [← hw3]; exact (Fr.refl _ _).setPr 0 x (.inl (by simp))
  have hz3 : Blk W3 (bs + 1) (pcells x).toArray 65 := by rw [← hw3]; exact HB.out.2.2.1.setPrOne
  have hb3 := f3.blk HB.out.2.2.2 (by simp)
  have hF3 : Fr [b, g, c, d, bs + 1] w1 W3 := (HB.out.2.1.mono (by simp)).trans f3 (by simp)
  obtain ⟨⟨n1, n2, n3⟩, ⟨n4, n5, n6⟩, ⟨n7, n8⟩, nv⟩ := HS.out.1.ne
  have hr3 := HS.out.1.r.fr hF3 (by simp; exact ⟨Ne.symm n3, Ne.symm n6, Ne.symm n7, Ne.symm n8, fun hh => HQ.out.2.2.1 (by simp [← hh])⟩) (fun j hj hm => by
    simp at hm
    rcases hm with hm | hm | hm | hm | hm
    · exact nv j (by simp [hj]) (by simp [hm])
    · exact nv j (by simp [hj]) (by simp [hm])
    · exact nv j (by simp [hj]) (by simp [hm])
    · exact nv j (by simp [hj]) (by simp [hm])
    · exact HQ.out.2.2.2.2 (by simp [hj, ← hm]))
  have HP3 := Lib.hid (H3.out.1 W3 vr hr3)
  clear d2 d3 zc hnb hw3
  have d2 := (hb3).at 2 (v := .int .i64 sv) rfl
  have d3 := (hb3).at 3 (v := .int .i64 si) rfl
  have HC := Lib.hid (And.intro f3 (And.intro hz3 (And.intro hF3 hb3)))
  clear f3 hz3 hb3 hF3 hr3 n1 n2 n3 n4 n5 n6 n7 n8 nv
  go_wp2_with fail
  (with_reducible refine HP3.out.mono ?_)
  rintro e W4 q3
  have h3 := q3
  obtain ⟨rfl, v', -, -, F4⟩ := h3
  have hz4 := F4.blk HC.out.2.1 (fun hm => HQ.out.2.2.1 (by simp at hm; simp [hm]))
  have zr := hz4.prOne
  have hzl : bs + 1 < w1.heap.size := HQ.out.2.1.lt
  obtain ⟨g9, d9, v9, t9, b1, b2, b3, F9⟩ := chain_pqr (z := bs + 1) HS.out.1 HA.out.1 (Fr.refl _ _) HB.out.1 HC.out.1 hzl ⟨HQ.out.2.2.1, HQ.out.2.2.2.2⟩ q3 HX.out.1
  have hT4 : TB W4 := HS.out.2.2.1.fr F9 (fun hm => by
    simp at hm
    have h0 := HS.out.2.2.2
    simp at h0
    omega)
  have hws := HS.out.2.1.size
  have HL := Lib.hid (show QLeft w b g c d r vr V' M' W4 from ⟨g9, d9, v9, t9, by rcases b1 with b1 | b1; exact .inl b1; exact .inr (by omega), by rcases b2 with b2 | b2; exact .inl b2; exact .inr (by omega), by
    rcases b3 with b3 | b3
    · exact .inl b3
    · exact .inr fun j hj => Nat.le_trans hws (b3 j hj), (HS.out.2.1.mono (by simp)).trans F9 (fun u hu => by
      simp at hu
      have := HBS2.out
      rcases hu with hu | hu | hu | hu | hu | hu
      · exact .inl (by simp [hu])
      · exact .inl (by simp [hu])
      · exact .inl (by simp [hu])
      · exact .inl (by simp [hu])
      · exact .inl (by simp [hu])
      · exact .inr (by omega))⟩)
  have HTX := Lib.hid (qtext_any W4 x HXI.out hT4)
  have HZ4 := Lib.hid hz4
  clear q3 F4 hz4 hzl t9 b1 b2 b3 F9 hT4 hws d2 d3
  generalize hqs : qtx x = qs at *
  go_wp2_with fail
  (with_reducible refine HTX.out.mono ?_)
  rintro e W5 ⟨rfl, f5⟩
  have zr5 := (f5.blk HZ4.out (by simp)).prOne
  have hel := fun W => eqlPr W x
  have heg := fun W o1 o2 => eqgPr W x o1 o2
  have HR := Lib.hid (show QDoes w b g c d r vr k (.returned (.bool true)) W5 from ⟨rfl, V', M', HL.out.grow f5, HX.out.2⟩)
  clear f5 zr
  go_wp2
  go_ret
  exact HR.out
set_option maxRecDepth 100000 in
set_option maxHeartbeats 4000000 in
theorem qdoes_at (w : World) (b g c d r k : Nat) (vr : Value) (V : List Int) (M : RM) (on sv si : Int) (h : TQ w b g c d r vr V M) (hF : FineQ k V M) (hk : k ≤ 4398046511104) (hT : TB w) (hv : I64 sv) (hz0 : 0 ∉ [b, g, c, d, r]) :
    Calls Tryd.prog 23 #[.pointer (some ⟨b, 0, none⟩), .pointer (some ⟨c, 0, none⟩), .pointer (some ⟨r, 0, none⟩), .agg #[.int .i64 3, .int .i64 on, .int .i64 sv, .int .i64 si]] w (QDoes w b g c d r vr k) := by
  obtain ⟨bs, hbs⟩ : ∃ bs, bs = w.heap.size := ⟨_, rfl⟩
  obtain ⟨w1, hw1⟩ : ∃ w1, (w.alloc (.cells #[.int .i64 3, .int .i64 on, .int .i64 sv, .int .i64 si] 69)).alloc (.cells #[.int .i64 0, .float .f64 0] 65) = w1 := ⟨_, rfl⟩
  have F1 : Fr [] w w1 := by rw [← hw1]; exact ((Fr.refl _ _).alloc _).alloc _
  have hb : Blk w1 bs #[.int .i64 3, .int .i64 on, .int .i64 sv, .int .i64 si] 69 := by rw [← hw1, hbs]; exact (Blk.new w _ _).alloc _
  have hzb : Blk w1 (bs + 1) (pcells 0).toArray 65 := by rw [← hw1, hbs]; exact Blk.new_at (by simp) _ _
  have d0 := hb.at 0 (v := .int .i64 3) rfl
  have d2 := hb.at 2 (v := .int .i64 sv) rfl
  have d3 := hb.at 3 (v := .int .i64 si) rfl
  have hTQ := h.fr0 F1
  have hlts := h.lts
  have HS := Lib.hid (And.intro hTQ (And.intro F1 (And.intro (hT.fr F1 (by simp)) hz0)))
  have HQ := Lib.hid (And.intro hb (And.intro hzb (show bs + 1 ∉ [b, g, c, d, r] ∧ bs ∉ [b, g, c, d, r] ∧ bs + 1 ∉ vr.ownBlock.toList from ⟨fun hm => by have := hlts _ hm; omega, fun hm => by have := hlts _ hm; omega, fun hm => by have := own_lt h.r.own (by simpa using hm); omega⟩)))
  obtain ⟨V', M', x, ok, hpk, hfin, hx, H3⟩ := at_three hTQ hF hk si
  have HX := Lib.hid (And.intro hpk hfin)
  have HXI := Lib.hid hx
  have H3 := Lib.hid H3
  have HBS2 := Lib.hid hbs
  clear hpk hfin hF hk hx
  have HW1 := Lib.hid hw1
  have HBS := Lib.hid hbs
  clear hv h F1 hb hzb hTQ hlts hT hz0 hw1 hbs
  go_enter Tryd.func23, Tryd.ntmps23
  go_upto_region 5 with fail
  rw [HW1.out]
  simp only [← HBS.out]
  clear HW1
  go_wp2_with fail
  clear d0 d2 d3
  obtain ⟨Cs, kf, hp⟩ := HS.out.1.p
  (with_reducible refine (H3.out.2.1 w1 g Cs kf hp).mono ?_)
  rintro e W1 q1
  have h1 := q1
  obtain ⟨rfl, g', Cs', kf', hp', a1, F1⟩ := h1
  have hb1 := F1.blk HQ.out.1 (fun hm => HQ.out.2.2.2.1 (by simp at hm; rcases hm with hm | hm <;> simp [hm]))
  obtain ⟨⟨n1, n2, n3⟩, ⟨n4, n5, n6⟩, ⟨n7, n8⟩, nv⟩ := HS.out.1.ne
  obtain ⟨Ds, jf, hq⟩ := HS.out.1.q_at F1 (notin2 (Ne.symm n1) (Ne.symm n4)) (notin2 (Ne.symm n2) (Ne.symm n5))
  have HP2 := Lib.hid (H3.out.2.2 W1 d Ds jf hq)
  have HA := Lib.hid (And.intro q1 F1)
  have d2 := (hb1).at 2 (v := .int .i64 sv) rfl
  have d3 := (hb1).at 3 (v := .int .i64 si) rfl
  clear q1 hp' a1 F1 hb1 hp hq n1 n2 n3 n4 n5 n6 n7 n8 nv
  go_wp2_with fail
  (with_reducible refine HP2.out.mono ?_)
  rintro e W2 q2
  have h2 := q2
  obtain ⟨rfl, d', Ds', jf', hq', a2, F2⟩ := h2
  have hF2 : Fr [b, g, c, d] w1 W2 := (HA.out.2.mono (by simp)).trans F2 (by simp)
  have hz2 := hF2.blk HQ.out.2.1 (fun hm => HQ.out.2.2.1 (by simp at hm; rcases hm with hm | hm | hm | hm <;> simp [hm]))
  have hb2 := hF2.blk HQ.out.1 (fun hm => HQ.out.2.2.2.1 (by simp at hm; rcases hm with hm | hm | hm | hm <;> simp [hm]))
  have zc := hz2.prOneCan
  have hnb : bs ≠ bs + 1 := by omega
  have HB := Lib.hid (And.intro q2 (And.intro hF2 (And.intro hz2 hb2)))
  clear d2 d3
  have d2 := (hb2).at 2 (v := .int .i64 sv) rfl
  have d3 := (hb2).at 3 (v := .int .i64 si) rfl
  clear q2 hq' a2 F2 hF2 hz2 hb2
  go_upto_region 17 with fail
  generalize hw3 : layPr W2 (bs + 1) 0 x = W3
  have f3 : Fr [bs + 1] W2 W3 := by rw [← hw3]; exact (Fr.refl _ _).setPr 0 x (.inl (by simp))
  have hz3 : Blk W3 (bs + 1) (pcells x).toArray 65 := by rw [← hw3]; exact HB.out.2.2.1.setPrOne
  have hb3 := f3.blk HB.out.2.2.2 (by simp)
  have hF3 : Fr [b, g, c, d, bs + 1] w1 W3 := (HB.out.2.1.mono (by simp)).trans f3 (by simp)
  obtain ⟨⟨n1, n2, n3⟩, ⟨n4, n5, n6⟩, ⟨n7, n8⟩, nv⟩ := HS.out.1.ne
  have hr3 := HS.out.1.r.fr hF3 (by simp; exact ⟨Ne.symm n3, Ne.symm n6, Ne.symm n7, Ne.symm n8, fun hh => HQ.out.2.2.1 (by simp [← hh])⟩) (fun j hj hm => by
    simp at hm
    rcases hm with hm | hm | hm | hm | hm
    · exact nv j (by simp [hj]) (by simp [hm])
    · exact nv j (by simp [hj]) (by simp [hm])
    · exact nv j (by simp [hj]) (by simp [hm])
    · exact nv j (by simp [hj]) (by simp [hm])
    · exact HQ.out.2.2.2.2 (by simp [hj, ← hm]))
  have HP3 := Lib.hid (H3.out.1 W3 vr hr3)
  clear d2 d3 zc hnb hw3
  have d2 := (hb3).at 2 (v := .int .i64 sv) rfl
  have d3 := (hb3).at 3 (v := .int .i64 si) rfl
  have HC := Lib.hid (And.intro f3 (And.intro hz3 (And.intro hF3 hb3)))
  clear f3 hz3 hb3 hF3 hr3 n1 n2 n3 n4 n5 n6 n7 n8 nv
  go_wp2_with fail
  (with_reducible refine HP3.out.mono ?_)
  rintro e W4 q3
  have h3 := q3
  obtain ⟨rfl, v', -, -, F4⟩ := h3
  have hz4 := F4.blk HC.out.2.1 (fun hm => HQ.out.2.2.1 (by simp at hm; simp [hm]))
  have zr := hz4.prOne
  have hzl : bs + 1 < w1.heap.size := HQ.out.2.1.lt
  obtain ⟨g9, d9, v9, t9, b1, b2, b3, F9⟩ := chain_pqr (z := bs + 1) HS.out.1 HA.out.1 (Fr.refl _ _) HB.out.1 HC.out.1 hzl ⟨HQ.out.2.2.1, HQ.out.2.2.2.2⟩ q3 HX.out.1
  have hT4 : TB W4 := HS.out.2.2.1.fr F9 (fun hm => by
    simp at hm
    have h0 := HS.out.2.2.2
    simp at h0
    omega)
  have hws := HS.out.2.1.size
  have HL := Lib.hid (show QLeft w b g c d r vr V' M' W4 from ⟨g9, d9, v9, t9, by rcases b1 with b1 | b1; exact .inl b1; exact .inr (by omega), by rcases b2 with b2 | b2; exact .inl b2; exact .inr (by omega), by
    rcases b3 with b3 | b3
    · exact .inl b3
    · exact .inr fun j hj => Nat.le_trans hws (b3 j hj), (HS.out.2.1.mono (by simp)).trans F9 (fun u hu => by
      simp at hu
      have := HBS2.out
      rcases hu with hu | hu | hu | hu | hu | hu
      · exact .inl (by simp [hu])
      · exact .inl (by simp [hu])
      · exact .inl (by simp [hu])
      · exact .inl (by simp [hu])
      · exact .inl (by simp [hu])
      · exact .inr (by omega))⟩)
  have HTX := Lib.hid (qtext_any W4 x HXI.out hT4)
  have HZ4 := Lib.hid hz4
  clear q3 F4 hz4 hzl t9 b1 b2 b3 F9 hT4 hws d2 d3
  generalize hqs : qtx x = qs at *
  go_wp2_with fail
  (with_reducible refine HTX.out.mono ?_)
  rintro e W5 ⟨rfl, f5⟩
  have zr5 := (f5.blk HZ4.out (by simp)).prOne
  have hel := fun W => eqlPr W x
  have heg := fun W o1 o2 => eqgPr W x o1 o2
  have HR := Lib.hid (show QDoes w b g c d r vr k (.returned (.bool true)) W5 from ⟨rfl, V', M', HL.out.grow f5, HX.out.2⟩)
  clear f5 zr
  go_wp2
  go_ret
  exact HR.out
set_option maxRecDepth 100000 in
set_option maxHeartbeats 4000000 in
theorem qdoes_cut (w : World) (b g c d r k : Nat) (vr : Value) (V : List Int) (M : RM) (on sv si : Int) (h : TQ w b g c d r vr V M) (hF : FineQ k V M) (hk : k ≤ 4398046511104) (hT : TB w) (hv : I64 sv) (hz0 : 0 ∉ [b, g, c, d, r]) :
    Calls Tryd.prog 23 #[.pointer (some ⟨b, 0, none⟩), .pointer (some ⟨c, 0, none⟩), .pointer (some ⟨r, 0, none⟩), .agg #[.int .i64 5, .int .i64 on, .int .i64 sv, .int .i64 si]] w (QDoes w b g c d r vr k) := by
  obtain ⟨bs, hbs⟩ : ∃ bs, bs = w.heap.size := ⟨_, rfl⟩
  obtain ⟨w1, hw1⟩ : ∃ w1, (w.alloc (.cells #[.int .i64 5, .int .i64 on, .int .i64 sv, .int .i64 si] 69)).alloc (.cells #[.int .i64 0, .float .f64 0] 65) = w1 := ⟨_, rfl⟩
  have F1 : Fr [] w w1 := by rw [← hw1]; exact ((Fr.refl _ _).alloc _).alloc _
  have hb : Blk w1 bs #[.int .i64 5, .int .i64 on, .int .i64 sv, .int .i64 si] 69 := by rw [← hw1, hbs]; exact (Blk.new w _ _).alloc _
  have hzb : Blk w1 (bs + 1) (pcells 0).toArray 65 := by rw [← hw1, hbs]; exact Blk.new_at (by simp) _ _
  have d0 := hb.at 0 (v := .int .i64 5) rfl
  have d2 := hb.at 2 (v := .int .i64 sv) rfl
  have d3 := hb.at 3 (v := .int .i64 si) rfl
  have hTQ := h.fr0 F1
  have hlts := h.lts
  have HS := Lib.hid (And.intro hTQ (And.intro F1 (And.intro (hT.fr F1 (by simp)) hz0)))
  have HQ := Lib.hid (And.intro hb (And.intro hzb (show bs + 1 ∉ [b, g, c, d, r] ∧ bs ∉ [b, g, c, d, r] ∧ bs + 1 ∉ vr.ownBlock.toList from ⟨fun hm => by have := hlts _ hm; omega, fun hm => by have := hlts _ hm; omega, fun hm => by have := own_lt h.r.own (by simpa using hm); omega⟩)))
  obtain ⟨V', M', x, ok, hpk, hfin, hx, H3⟩ := cut_three hTQ hF hk si
  have HX := Lib.hid (And.intro hpk hfin)
  have HXI := Lib.hid hx
  have H3 := Lib.hid H3
  have HBS2 := Lib.hid hbs
  clear hpk hfin hF hk hx
  have HW1 := Lib.hid hw1
  have HBS := Lib.hid hbs
  clear hv h F1 hb hzb hTQ hlts hT hz0 hw1 hbs
  go_enter Tryd.func23, Tryd.ntmps23
  go_upto_region 5 with fail
  rw [HW1.out]
  simp only [← HBS.out]
  clear HW1
  go_wp2_with fail
  clear d0 d2 d3
  obtain ⟨Cs, kf, hp⟩ := HS.out.1.p
  (with_reducible refine (H3.out.2.1 w1 g Cs kf hp).mono ?_)
  rintro e W1 q1
  have h1 := q1
  obtain ⟨rfl, g', Cs', kf', hp', a1, F1⟩ := h1
  have hb1 := F1.blk HQ.out.1 (fun hm => HQ.out.2.2.2.1 (by simp at hm; rcases hm with hm | hm <;> simp [hm]))
  obtain ⟨⟨n1, n2, n3⟩, ⟨n4, n5, n6⟩, ⟨n7, n8⟩, nv⟩ := HS.out.1.ne
  obtain ⟨Ds, jf, hq⟩ := HS.out.1.q_at F1 (notin2 (Ne.symm n1) (Ne.symm n4)) (notin2 (Ne.symm n2) (Ne.symm n5))
  have HP2 := Lib.hid (H3.out.2.2 W1 d Ds jf hq)
  have HA := Lib.hid (And.intro q1 F1)
  have d2 := (hb1).at 2 (v := .int .i64 sv) rfl
  have d3 := (hb1).at 3 (v := .int .i64 si) rfl
  clear q1 hp' a1 F1 hb1 hp hq n1 n2 n3 n4 n5 n6 n7 n8 nv
  go_wp2_with fail
  (with_reducible refine HP2.out.mono ?_)
  rintro e W2 q2
  have h2 := q2
  obtain ⟨rfl, d', Ds', jf', hq', a2, F2⟩ := h2
  have hF2 : Fr [b, g, c, d] w1 W2 := (HA.out.2.mono (by simp)).trans F2 (by simp)
  have hz2 := hF2.blk HQ.out.2.1 (fun hm => HQ.out.2.2.1 (by simp at hm; rcases hm with hm | hm | hm | hm <;> simp [hm]))
  have hb2 := hF2.blk HQ.out.1 (fun hm => HQ.out.2.2.2.1 (by simp at hm; rcases hm with hm | hm | hm | hm <;> simp [hm]))
  have zc := hz2.prOneCan
  have hnb : bs ≠ bs + 1 := by omega
  have HB := Lib.hid (And.intro q2 (And.intro hF2 (And.intro hz2 hb2)))
  clear d2 d3
  have d2 := (hb2).at 2 (v := .int .i64 sv) rfl
  have d3 := (hb2).at 3 (v := .int .i64 si) rfl
  clear q2 hq' a2 F2 hF2 hz2 hb2
  go_upto_region 24 with fail
  generalize hw3 : layPr W2 (bs + 1) 0 x = W3
  have f3 : Fr [bs + 1] W2 W3 := by rw [← hw3]; exact (Fr.refl _ _).setPr 0 x (.inl (by simp))
  have hz3 : Blk W3 (bs + 1) (pcells x).toArray 65 := by rw [← hw3]; exact HB.out.2.2.1.setPrOne
  have hb3 := f3.blk HB.out.2.2.2 (by simp)
  have hF3 : Fr [b, g, c, d, bs + 1] w1 W3 := (HB.out.2.1.mono (by simp)).trans f3 (by simp)
  obtain ⟨⟨n1, n2, n3⟩, ⟨n4, n5, n6⟩, ⟨n7, n8⟩, nv⟩ := HS.out.1.ne
  have hr3 := HS.out.1.r.fr hF3 (by simp; exact ⟨Ne.symm n3, Ne.symm n6, Ne.symm n7, Ne.symm n8, fun hh => HQ.out.2.2.1 (by simp [← hh])⟩) (fun j hj hm => by
    simp at hm
    rcases hm with hm | hm | hm | hm | hm
    · exact nv j (by simp [hj]) (by simp [hm])
    · exact nv j (by simp [hj]) (by simp [hm])
    · exact nv j (by simp [hj]) (by simp [hm])
    · exact nv j (by simp [hj]) (by simp [hm])
    · exact HQ.out.2.2.2.2 (by simp [hj, ← hm]))
  have HP3 := Lib.hid (H3.out.1 W3 vr hr3)
  clear d2 d3 zc hnb hw3
  have d2 := (hb3).at 2 (v := .int .i64 sv) rfl
  have d3 := (hb3).at 3 (v := .int .i64 si) rfl
  have HC := Lib.hid (And.intro f3 (And.intro hz3 (And.intro hF3 hb3)))
  clear f3 hz3 hb3 hF3 hr3 n1 n2 n3 n4 n5 n6 n7 n8 nv
  go_wp2_with fail
  (with_reducible refine HP3.out.mono ?_)
  rintro e W4 q3
  have h3 := q3
  obtain ⟨rfl, v', -, -, F4⟩ := h3
  have hz4 := F4.blk HC.out.2.1 (fun hm => HQ.out.2.2.1 (by simp at hm; simp [hm]))
  have zr := hz4.prOne
  have hzl : bs + 1 < w1.heap.size := HQ.out.2.1.lt
  obtain ⟨g9, d9, v9, t9, b1, b2, b3, F9⟩ := chain_pqr (z := bs + 1) HS.out.1 HA.out.1 (Fr.refl _ _) HB.out.1 HC.out.1 hzl ⟨HQ.out.2.2.1, HQ.out.2.2.2.2⟩ q3 HX.out.1
  have hT4 : TB W4 := HS.out.2.2.1.fr F9 (fun hm => by
    simp at hm
    have h0 := HS.out.2.2.2
    simp at h0
    omega)
  have hws := HS.out.2.1.size
  have HL := Lib.hid (show QLeft w b g c d r vr V' M' W4 from ⟨g9, d9, v9, t9, by rcases b1 with b1 | b1; exact .inl b1; exact .inr (by omega), by rcases b2 with b2 | b2; exact .inl b2; exact .inr (by omega), by
    rcases b3 with b3 | b3
    · exact .inl b3
    · exact .inr fun j hj => Nat.le_trans hws (b3 j hj), (HS.out.2.1.mono (by simp)).trans F9 (fun u hu => by
      simp at hu
      have := HBS2.out
      rcases hu with hu | hu | hu | hu | hu | hu
      · exact .inl (by simp [hu])
      · exact .inl (by simp [hu])
      · exact .inl (by simp [hu])
      · exact .inl (by simp [hu])
      · exact .inl (by simp [hu])
      · exact .inr (by omega))⟩)
  have HTX := Lib.hid (qtext_any W4 x HXI.out hT4)
  have HZ4 := Lib.hid hz4
  clear q3 F4 hz4 hzl t9 b1 b2 b3 F9 hT4 hws d2 d3
  generalize hqs : qtx x = qs at *
  go_wp2_with fail
  (with_reducible refine HTX.out.mono ?_)
  rintro e W5 ⟨rfl, f5⟩
  have zr5 := (f5.blk HZ4.out (by simp)).prOne
  have hel := fun W => eqlPr W x
  have heg := fun W o1 o2 => eqgPr W x o1 o2
  have HR := Lib.hid (show QDoes w b g c d r vr k (.returned (.bool true)) W5 from ⟨rfl, V', M', HL.out.grow f5, HX.out.2⟩)
  clear f5 zr
  go_wp2
  go_ret
  exact HR.out
end Qu
end Go.Proofs.YtiimmndhinoaiaaDoor
