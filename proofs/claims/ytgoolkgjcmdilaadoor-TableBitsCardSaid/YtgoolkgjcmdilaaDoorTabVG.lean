/-
  Tables of V: Del.
-/
import Derived.Test.YtgoolkgjcmdilaaDoorTabVF
namespace Go.Proofs.YtgoolkgjcmdilaaDoor
open Go.RowKit
set_option linter.unusedVariables false
set_option linter.unusedSimpArgs false
attribute [local go_sem] Oper.semAt_some

set_option maxRecDepth 100000 in
set_option maxHeartbeats 1000000 in
theorem delV_no (w : World) (b : Nat) (v : Value) (Ps : List (Int × (Int × ByteArray))) (room id : Int) (h : TabV w b v Ps room) (hi : U32 id) (hh : hasId Ps id = false) :
    Calls Tryd.prog 16 #[.pointer (some ⟨b, 0, none⟩), .int .u32 id] w fun e w' => e = .returned (.tuple #[.agg #[.int .i64 0, .string ⟨#[]⟩], .bool false]) ∧ Fr [] w w' := by
  have F0 := (Fr.refl [] w).alloc (.cells #[.int .i64 0, .string ⟨#[]⟩] 29)
  have z0 := Blk.new w #[.int .i64 0, .string ⟨#[]⟩] 29
  have HG := Lib.hid (getV_no _ b v Ps room id (h.grow F0) hi hh)
  have HF := Lib.hid (And.intro F0 z0)
  clear F0 z0 h hi hh
  go_enter Tryd.func16, Tryd.ntmps16
  go_wp2_with fail
  (with_reducible refine (HG.out).mono ?_)
  rintro e w1 ⟨rfl, f1⟩
  have zb := (f1.blk HF.out.2 (by simp)).alloc (.cells #[.int .i64 0, .string ⟨#[]⟩] 29)
  have zn := Blk.new w1 #[.int .i64 0, .string ⟨#[]⟩] 29
  have HK := Lib.hid ((HF.out.1.trans f1 (by simp)).alloc (.cells #[.int .i64 0, .string ⟨#[]⟩] 29))
  have hne : ¬ w1.heap.size = w.heap.size := by have := HF.out.2.lt; have := f1.size; simp at *; omega
  have y0 := zb.at 0 (v := .int .i64 0) rfl
  have v0 := zb.free 0
  have q0 := zn.at 0 (v := .int .i64 0) rfl
  have y1 := zb.at 1 (v := .string ⟨#[]⟩) rfl
  have v1 := zb.free 1
  have q1 := zn.at 1 (v := .string ⟨#[]⟩) rfl
  obtain ⟨z9, hz9⟩ : ∃ z, z = w1.heap.size := ⟨_, rfl⟩
  clear f1 zb zn
  go_upto_region 2 with fail
  simp only [← hz9] at *
  clear hz9
  generalize w1.alloc _ = w2 at *
  go_wp2_with fail
  refine bodyPost_ret (v := .tuple #[.agg #[.int .i64 0, .string ⟨#[]⟩], .bool false]) (by simp [results, Tryd.results16, go_sem, y0, y1]) rfl ⟨rfl, ?_⟩
  exact ((((HK.out).setCell ⟨w.heap.size, 0, none⟩ (.int .i64 0) (.inr (Nat.le_refl _)))).setCell ⟨w.heap.size, 1, none⟩ (.string ⟨#[]⟩) (.inr (Nat.le_refl _)))
def DelVPost (w : World) (b : Nat) (v : Value) (Qs : List (Int × (Int × ByteArray))) (room : Int) (a : Value) (e : Ending) (w' : World) : Prop :=
  e = .returned (.tuple #[a, .bool true]) ∧ ∃ v', TabV w' b v' Qs room ∧ v'.ownBlock = v.ownBlock ∧ Fr (b :: v.ownBlock.toList) w w'
set_option maxRecDepth 100000 in
set_option maxHeartbeats 1000000 in
theorem delV_yes (w : World) (b : Nat) (v : Value) (Ps : List (Int × (Int × ByteArray))) (room id : Int) (x : Int × ByteArray) (h : TabV w b v Ps room) (hi : U32 id) (hx : Ps[rank Ps id]? = some (id, x)) :
    Calls Tryd.prog 16 #[.pointer (some ⟨b, 0, none⟩), .int .u32 id] w (DelVPost w b v (Ps.eraseIdx (rank Ps id)) room (.agg #[.int .i64 x.1, .string x.2])) := by
  have F0 := (Fr.refl [] w).alloc (.cells #[.int .i64 0, .string ⟨#[]⟩] 29)
  have z0 := Blk.new w #[.int .i64 0, .string ⟨#[]⟩] 29
  have h0 := h.grow F0
  have HG := Lib.hid (getV_yes _ b v Ps room id x h0 hi hx)
  have HF := Lib.hid (And.intro F0 (And.intro z0 h0))
  have HW := Lib.hid h
  have hh : hasId Ps id = true := (has_at h.up id).2 ⟨x, hx⟩
  have HI := Lib.hid (And.intro hi hh)
  obtain ⟨r, hr⟩ : ∃ r, r = rank Ps id := ⟨_, rfl⟩
  rw [← hr] at hx ⊢
  have HX := Lib.hid (And.intro hr hx)
  clear F0 z0 h h0 hi hh hr hx
  go_enter Tryd.func16, Tryd.ntmps16
  go_wp2_with fail
  (with_reducible refine (HG.out).mono ?_)
  rintro e w1 ⟨rfl, f1⟩
  have zb := (f1.blk HF.out.2.1 (by simp)).alloc (.cells #[.int .i64 x.1, .string x.2] 29)
  have zn := Blk.new w1 #[.int .i64 x.1, .string x.2] 29
  have h2 := (HF.out.2.2.grow f1).grow ((Fr.refl [] w1).alloc (.cells #[.int .i64 x.1, .string x.2] 29))
  have hne : ¬ w1.heap.size = w.heap.size := by have := HF.out.2.1.lt; have := f1.size; simp at *; omega
  have HN := Lib.hid (show w.heap.size < w1.heap.size by have := HF.out.2.1.lt; have := f1.size; simp at *; omega)
  have HK := Lib.hid (And.intro ((HF.out.1.trans f1 (by simp)).alloc (.cells #[.int .i64 x.1, .string x.2] 29)) (And.intro zb (And.intro zn h2)))
  obtain ⟨z9, hz9⟩ : ∃ z, z = w1.heap.size := ⟨_, rfl⟩
  clear f1 zb zn h2
  go_upto_region 2 with fail
  simp only [← hz9] at *
  clear hz9
  generalize w1.alloc _ = w2 at *
  have hL := findV_any _ b v Ps room id HK.out.2.2.2 HI.out.1
  rw [← HX.out.1, HI.out.2] at hL
  have HL := Lib.hid hL
  clear hL
  go_wp2_with fail
  (with_reducible refine (HL.out).mono ?_)
  rintro e w3 ⟨rfl, f3⟩
  have h3 := HK.out.2.2.2.grow f3
  obtain ⟨m, hm⟩ : ∃ m, Ps.length = m + 1 := by
    have := (List.getElem?_eq_some_iff.1 HX.out.2).1
    exact ⟨Ps.length - 1, by omega⟩
  have hrm : r < m + 1 := by rw [← hm]; exact (List.getElem?_eq_some_iff.1 HX.out.2).1
  have hl6 : m < 65536 := by have := h3.lim; rw [hm] at this; omega
  rcases h3.own.2 with ⟨rfl, _⟩ | ⟨g, cap, cur, rfl, _, hg, hnc, hmx, hcs, htake⟩
  · exact absurd rfl h3.nn
  have hd1 := h3.hd.at 1 (v := .slice (some ⟨g, 0, none⟩) Ps.length cap) rfl
  have HD := Lib.hid (deleV_any w3 g cap m cur Ps r hg hmx hcs hm htake hrm (by rw [← hm]; exact hnc) hl6)
  have hwr : wrap64 ((r : Int) + 1) = (r : Int) + 1 := w64 (by omega)
  have HT := Lib.hid (And.intro h3 (And.intro hm (And.intro f3 hrm)))
  rw [hm] at hd1
  clear h3 hrm hl6 hg hnc hmx hcs htake f3 hm
  go_wp2_with fail
  (with_reducible refine (HD.out).mono ?_)
  rintro e w5 ⟨rfl, ho, f5⟩
  have hgw : g < w.heap.size := own_lt HW.out.own rfl
  have hbw : b < w.heap.size := HW.out.hd.lt
  have hzw := HN.out
  have hbg : b ≠ g := fun e => HW.out.notin (by simp [Value.ownBlock, e])
  have hb5 := f5.blk HT.out.1.hd (by simp; exact hbg)
  have zb := f5.blk (HT.out.2.2.1.blk HK.out.2.1 (by simp)) (by simp; omega)
  have zn := f5.blk (HT.out.2.2.1.blk HK.out.2.2.1 (by simp)) (by simp; omega)
  have n1 : ¬ z9 = b := by omega
  have n2 : ¬ w.heap.size = b := by omega
  have HQ := Lib.hid (And.intro ho (And.intro f5 (And.intro hb5 (And.intro hbg (And.intro hgw (And.intro hbw hzw))))))
  have c1 := hb5.at 1 (v := .slice (some ⟨g, 0, none⟩) Ps.length cap) rfl
  have e1 := hb5.free 1
  have y0 := zb.at 0 (v := .int .i64 0) rfl
  have v0 := zb.free 0
  have q0 := zn.at 0 (v := .int .i64 x.1) rfl
  have y1 := zb.at 1 (v := .string ⟨#[]⟩) rfl
  have v1 := zb.free 1
  have q1 := zn.at 1 (v := .string x.2) rfl
  clear ho f5 hb5 zb zn hgw hbw hbg hzw hd1 hwr
  go_wp2_with fail
  refine bodyPost_ret (v := .tuple #[.agg #[.int .i64 x.1, .string x.2], .bool true]) (by simp [results, Tryd.results16, go_sem, n1, n2, y0, y1]) rfl ?_
  obtain ⟨ho, f5, hb5, hbg, hgw, hbw, hzw⟩ := HQ.out
  obtain ⟨h3, hm, f3, hrm⟩ := HT.out
  have hlen : (Ps.eraseIdx r).length = m := by rw [List.length_eraseIdx_of_lt (by omega), hm]; rfl
  have htab : TabV (w5.setCell ⟨b, 1, none⟩ (.slice (some ⟨g, 0, none⟩) m cap)) b (.slice (some ⟨g, 0, none⟩) m cap) (Ps.eraseIdx r) room := by
    refine ⟨hb5.set 1 _, ?_, by simp [Value.ownBlock], up_erase h3.up r, fun p hp => h3.ids p (List.mem_of_mem_eraseIdx hp), by rw [hlen]; have := h3.lim; rw [hm] at this; omega⟩
    rw [hlen]
    exact own_fr ho ((Fr.refl [b] w5).setCell _ _ (.inl (by simp))) (fun g2 e => by simp [Value.ownBlock] at e; subst e; simp; omega)
  refine ⟨rfl, _, TabV.fr (S := [w.heap.size]) htab ?_ ?_ ?_, rfl, ?_⟩
  · exact ((((Fr.refl _ _).setCell ⟨w.heap.size, 0, none⟩ (.int .i64 x.1) (.inl (by simp)))).setCell ⟨w.heap.size, 1, none⟩ (.string x.2) (.inl (by simp)))
  · simp; omega
  · intro g2 hg2; simp [Value.ownBlock] at hg2; subst hg2; simp; omega
  · have hf := ((((HK.out.1.trans f3 (by simp)).mono (T := [b, g]) (by simp)).trans f5 (fun x hx => .inl (by simp at hx; simp [hx]))).setCell ⟨b, 1, none⟩ (.slice (some ⟨g, 0, none⟩) m cap) (.inl (by simp)))
    exact ((((hf).setCell ⟨w.heap.size, 0, none⟩ (.int .i64 x.1) (.inr (Nat.le_refl _)))).setCell ⟨w.heap.size, 1, none⟩ (.string x.2) (.inr (Nat.le_refl _)))
end Go.Proofs.YtgoolkgjcmdilaaDoor
