/-
  TablePlays: the walk.
-/
import Derived.Test.YtgoolkgjcmdilaaDoorPlyB
import Derived.BigRegion
import Derived.LoopN
import Derived.Deep.CutBlock
import Derived.Deep.DeepCutAuto
namespace Go.Proofs.YtgoolkgjcmdilaaDoor
open Go.RowKit
set_option linter.unusedVariables false
set_option linter.unusedSimpArgs false
attribute [local go_sem] Oper.semAt_some

theorem info61 : (Tryd.prog.info? 61).map (fun i => (i.zero, i.size, i.bytes)) = some (some (.agg #[.nilFunc, .slice none 0 0]), 2, 32) := by kernel_rfl
theorem deB_fr {w W : World} (h : DeB w) (f : Fr [] w W) : DeB W := fun i hi => (f.cell (World.block_lt_of_cell? w _ (h i hi)) (by simp)).trans (h i hi)
set_option maxRecDepth 100000 in
set_option maxHeartbeats 4000000 in
theorem plays_no0 (w : World) (r0 r1 : Int) (sl : Value) (hT : DeB w) (h0 : ¬ (0 ≤ r0 ∧ r0 ≤ 65536)) : Calls Tryd.prog 4 #[.agg #[.int .i64 r0, .int .i64 r1], sl] w fun e w' => e = .returned (.bool true) ∧ Fr [] w w' := by
  have hn : r0 < 0 ∨ 65536 < r0 := by omega
  have hd : decide (0 ≤ r0 ∧ r0 ≤ 65536) = false := decide_eq_false h0
  have F : Fr [] w (((w.alloc (.cells #[.int .i64 r0, .int .i64 r1] 44)).alloc (.cells #[.pointer none, .pointer none] 46)).alloc (.cells #[.pointer none, .pointer none] 48)) := (((Fr.refl [] w).alloc _).alloc _).alloc _
  have kb := ((Blk.new w #[.int .i64 r0, .int .i64 r1] 44).alloc (.cells #[.pointer none, .pointer none] 46)).alloc (.cells #[.pointer none, .pointer none] 48)
  have HF := Lib.hid (And.intro F (And.intro kb (And.intro hn (And.intro hd hT))))
  clear F kb hn hd hT h0
  go_enter Tryd.func4, Tryd.ntmps4
  go_wp2_with fail
  refine wp_loop_rounds 1 ?_
  rw [rounds_succ]
  have k0 := HF.out.2.1.at 0 (v := .int .i64 r0) rfl
  go_wp2_with fail
  (with_reducible refine (newV_no _ r0 HF.out.2.2.1).mono ?_)
  rintro e w2 ⟨rfl, f2⟩
  have k2 := (f2.blk HF.out.2.1 (by simp)).at 0 (v := .int .i64 r0) rfl
  have F2 := HF.out.1.trans f2 (by simp)
  have HF2 := Lib.hid F2
  clear k0 f2 F2
  go_wp2_with fail
  (with_reducible refine (fits_any w2 r0).mono ?_)
  rintro e w3 ⟨rfl, rfl⟩
  rw [HF.out.2.2.2.1]
  go_wp2_with fail
  (with_reducible refine (lives_any w2 (deB_fr HF.out.2.2.2.2 HF2.out)).mono ?_)
  rintro e w3 ⟨rfl, f3⟩
  go_wp2
  all_goals (refine bodyPost_ret (v := .bool true) (by simp [results, Tryd.results4, go_sem]) rfl ⟨rfl, HF2.out.trans f3 (by simp)⟩)
set_option maxRecDepth 100000 in
set_option maxHeartbeats 4000000 in
theorem plays_yes0 (w : World) (r0 r1 : Int) (sl : Value) (l : List Stp) (hT : DeB w) (h0 : 0 ≤ r0 ∧ r0 ≤ 65536) (hs : RdSt w sl l) (hl : l.length * 32 ≤ 140737488355328) (hids : ∀ x, x ∈ l → U32 x.id) : Calls Tryd.prog 4 #[.agg #[.int .i64 r0, .int .i64 r1], sl] w fun e w' => e = .returned (.bool true) ∧ Fr [] w w' := by
  have hd : decide (0 ≤ r0 ∧ r0 ≤ 65536) = true := decide_eq_true h0
  have F : Fr [] w (((w.alloc (.cells #[.int .i64 r0, .int .i64 r1] 44)).alloc (.cells #[.pointer none, .pointer none] 46)).alloc (.cells #[.pointer none, .pointer none] 48)) := (((Fr.refl [] w).alloc _).alloc _).alloc _
  have kb := ((Blk.new w #[.int .i64 r0, .int .i64 r1] 44).alloc (.cells #[.pointer none, .pointer none] 46)).alloc (.cells #[.pointer none, .pointer none] 48)
  have kt := (Blk.new_at (w := w.alloc (.cells #[.int .i64 r0, .int .i64 r1] 44)) (k := w.heap.size + 1) (by simp) #[.pointer none, .pointer none] 46).alloc (.cells #[.pointer none, .pointer none] 48)
  have km := Blk.new_at (w := (w.alloc (.cells #[.int .i64 r0, .int .i64 r1] 44)).alloc (.cells #[.pointer none, .pointer none] 46)) (k := w.heap.size + 1 + 1) (by simp) #[.pointer none, .pointer none] 48
  obtain ⟨sp, sc, rfl, hsl⟩ := hs
  obtain ⟨n, hn⟩ : ∃ n, n = l.length := ⟨_, rfl⟩
  rw [← hn] at hl hsl ⊢
  have HS := Lib.hid (And.intro hn (And.intro hsl hids))
  clear hn hsl hids
  have HF := Lib.hid (And.intro F (And.intro kb (And.intro kt (And.intro km (And.intro hd (And.intro hT h0))))))
  clear F kb kt km hd hT h0
  go_enter Tryd.func4, Tryd.ntmps4
  go_wp2_with fail
  refine wp_loop_rounds 3 ?_
  rw [rounds_succ]
  have k0 := HF.out.2.1.at 0 (v := .int .i64 r0) rfl
  go_wp2_with fail
  (with_reducible refine (newV_ok _ r0 HF.out.2.2.2.2.2.2.1 HF.out.2.2.2.2.2.2.2).mono ?_)
  rintro e w2 ⟨b0, v0, rfl, ht0, hb0, hv0, f2⟩
  have k2 := (f2.blk HF.out.2.1 (by simp)).at 0 (v := .int .i64 r0) rfl
  have HA := Lib.hid (And.intro f2 (And.intro ht0 (And.intro hb0 hv0)))
  clear k0 f2 ht0 hb0 hv0
  go_wp2_with fail
  (with_reducible refine (fits_any w2 r0).mono ?_)
  rintro e w3 ⟨rfl, rfl⟩
  rw [HF.out.2.2.2.2.1]
  have t2 := HA.out.1.blk HF.out.2.2.1 (by simp)
  have m2 := HA.out.1.blk HF.out.2.2.2.1 (by simp)
  have tc := t2.at 0 (v := .pointer none) rfl
  have tf := t2.free 0
  have mc := m2.at 0 (v := .pointer none) rfl
  have mf := m2.free 0
  have HB := Lib.hid (And.intro t2 m2)
  clear t2 m2
  go_upto_region 12 with fail
  have f4 : Fr [w.heap.size + 1] w2 (w2.setCell ⟨w.heap.size + 1, 0, none⟩ (.pointer (some ⟨b0, 0, none⟩))) := (Fr.refl _ _).setCell _ _ (.inl (by simp))
  have t4 : Blk (w2.setCell ⟨w.heap.size + 1, 0, none⟩ (.pointer (some ⟨b0, 0, none⟩))) (w.heap.size + 1) #[.pointer (some ⟨b0, 0, none⟩), .pointer none] 46 := by simpa using HB.out.1.set 0 (.pointer (some ⟨b0, 0, none⟩))
  have m4 := f4.blk HB.out.2 (by simp)
  have k4 := f4.blk (HA.out.1.blk HF.out.2.1 (by simp)) (by simp)
  have ht4 := HA.out.2.1.fr f4 (by have := HA.out.2.2.1; simp at this ⊢; omega) (fun g hg hm => by have := HA.out.2.2.2 g hg; simp at this hm; omega)
  have F4 : Fr [] w (w2.setCell ⟨w.heap.size + 1, 0, none⟩ (.pointer (some ⟨b0, 0, none⟩))) := (HF.out.1.trans HA.out.1 (by simp)).setCell _ _ (.inr (by simp))
  generalize w2.setCell _ _ = w4 at *
  have kc := k4.at 0 (v := .int .i64 r0) rfl
  have m5 := m4.alloc (.cells #[.int .i64 r0, .slice none 0 0] 52)
  have mc5 := m5.at 0 (v := .pointer none) rfl
  have mf5 := m5.free 0
  have hW := Lib.hid (And.intro t4 (And.intro m5 (And.intro k4 (And.intro ht4 (And.intro F4 m4)))))
  clear t4 m4 k4 ht4 F4 f4 tc tf mc mf k2 m5
  go_wp2_with fail
  obtain ⟨t4, m5, k4, ht4, F4, m4⟩ := hW.out
  have f5 : Fr [w.heap.size + 1 + 1] w4 ((w4.alloc (.cells #[.int .i64 r0, .slice none 0 0] 52)).setCell ⟨w.heap.size + 1 + 1, 0, none⟩ (.pointer (some ⟨w4.heap.size, 0, none⟩))) := ((Fr.refl _ _).alloc _).setCell _ _ (.inl (by simp))
  have F5 : Fr [] w ((w4.alloc (.cells #[.int .i64 r0, .slice none 0 0] 52)).setCell ⟨w.heap.size + 1 + 1, 0, none⟩ (.pointer (some ⟨w4.heap.size, 0, none⟩))) := (F4.alloc _).setCell _ _ (.inr (by simp; omega))
  have m6 : Blk ((w4.alloc (.cells #[.int .i64 r0, .slice none 0 0] 52)).setCell ⟨w.heap.size + 1 + 1, 0, none⟩ (.pointer (some ⟨w4.heap.size, 0, none⟩))) (w.heap.size + 1 + 1) #[.pointer (some ⟨w4.heap.size, 0, none⟩), .pointer none] 48 := by simpa using m5.set 0 (.pointer (some ⟨w4.heap.size, 0, none⟩))
  have t6 := f5.blk t4 (by simp)
  have k6 := f5.blk k4 (by simp; omega)
  have hml := m4.lt
  have c6 := (Blk.new w4 #[.int .i64 r0, .slice none 0 0] 52).other ⟨w.heap.size + 1 + 1, 0, none⟩ (.pointer (some ⟨w4.heap.size, 0, none⟩)) (by simp; omega)
  have ht6 := ht4.fr f5 (by have := HA.out.2.2.1; simp at this ⊢; omega) (fun g hg hm => by have := HA.out.2.2.2 g hg; simp at this hm; omega)
  obtain ⟨c0, hc0⟩ : ∃ c, c = w4.heap.size := ⟨_, rfl⟩
  have hc0w : w.heap.size ≤ c0 := by rw [hc0]; omega
  rw [← hc0] at f5 F5 m6 t6 k6 c6 ht6 ⊢
  generalize World.setCell _ _ _ = w6 at *
  have hP0 : PT b0 c0 v0 (.slice none 0 0) [] r0 w6 := ⟨ht6, ⟨c6, World.ownsRow_nil _ _ _ _, List.Pairwise.nil, by simp, by simp⟩, HF.out.2.2.2.2.2.2.2⟩
  have HC := Lib.hid (And.intro hP0 (And.intro k6 (And.intro t6 (And.intro m6 (And.intro F5 hc0w)))))
  have hb0w : w.heap.size ≤ b0 ∧ ∀ g, v0.ownBlock = some g → w.heap.size ≤ g := ⟨by have := HA.out.2.2.1; simp at this; omega, fun g hg => by have := HA.out.2.2.2 g hg; simp at this; omega⟩
  have HD := Lib.hid hb0w
  have HT := Lib.hid HF.out.2.2.2.2.2.1
  have H0 := Lib.hid HF.out.2.2.2.2.2.2
  clear hW HB HA HF t4 m5 k4 ht4 F4 m4 f5 F5 m6 t6 k6 hml c6 ht6 hP0 hc0 hc0w hb0w kc mc5 mf5
  rw [rounds_succ]
  have k0 := HC.out.2.1.at 1 (v := .int .i64 r1) rfl
  by_cases h1 : 0 ≤ r1 ∧ r1 ≤ 65536
  · go_wp2_with fail
    (with_reducible refine (newV_ok _ r1 h1.1 h1.2).mono ?_)
    rintro e w2 ⟨b1, v1, rfl, ht1, hb1, hv1, f2⟩
    have k2 := (f2.blk HC.out.2.1 (by simp)).at 1 (v := .int .i64 r1) rfl
    have hd : decide (0 ≤ r1 ∧ r1 ≤ 65536) = true := decide_eq_true h1
    have HA := Lib.hid (And.intro f2 (And.intro ht1 (And.intro hb1 (And.intro hv1 (And.intro hd h1)))))
    clear k0 f2 ht1 hb1 hv1 hd h1
    go_wp2_with fail
    (with_reducible refine (fits_any w2 r1).mono ?_)
    rintro e w3 ⟨rfl, rfl⟩
    rw [HA.out.2.2.2.2.1]
    have t2 := HA.out.1.blk HC.out.2.2.1 (by simp)
    have m2 := HA.out.1.blk HC.out.2.2.2.1 (by simp)
    have tc := t2.at 1 (v := .pointer none) rfl
    have tf := t2.free 1
    have HB := Lib.hid (And.intro t2 m2)
    clear t2 m2
    go_upto_region 12 with fail
    have f4 : Fr [w.heap.size + 1] w2 (w2.setCell ⟨w.heap.size + 1, 1, none⟩ (.pointer (some ⟨b1, 0, none⟩))) := (Fr.refl _ _).setCell _ _ (.inl (by simp))
    have t4 : Blk (w2.setCell ⟨w.heap.size + 1, 1, none⟩ (.pointer (some ⟨b1, 0, none⟩))) (w.heap.size + 1) #[.pointer (some ⟨b0, 0, none⟩), .pointer (some ⟨b1, 0, none⟩)] 46 := by simpa using HB.out.1.set 1 (.pointer (some ⟨b1, 0, none⟩))
    have m4 := f4.blk HB.out.2 (by simp)
    have k4 := f4.blk (HA.out.1.blk HC.out.2.1 (by simp)) (by simp)
    have hs6 := HC.out.2.2.2.1.lt
    have hP4 := (HC.out.1.grow HA.out.1).fr f4 (fun g hg hm => by
      simp at hm; subst hm
      exact ps_ty (HC.out.1.grow HA.out.1) HB.out.1 (by decide) (by decide) (by decide) (by decide) hg)
    have ht4 := HA.out.2.1.fr f4 (by have := HA.out.2.2.1; simp at this ⊢; omega) (fun g hg hm => by have := HA.out.2.2.2.1 g hg; simp at this hm; omega)
    have F4 : Fr [] w (w2.setCell ⟨w.heap.size + 1, 1, none⟩ (.pointer (some ⟨b1, 0, none⟩))) := (HC.out.2.2.2.2.1.trans HA.out.1 (by simp)).setCell _ _ (.inr (by simp))
    have hsz : w6.heap.size ≤ (w2.setCell ⟨w.heap.size + 1, 1, none⟩ (.pointer (some ⟨b1, 0, none⟩))).heap.size := by simp; exact HA.out.1.size
    generalize w2.setCell _ _ = w4 at *
    have kc := k4.at 1 (v := .int .i64 r1) rfl
    have m5 := m4.alloc (.cells #[.int .i64 r1, .slice none 0 0] 52)
    have mc5 := m5.at 1 (v := .pointer none) rfl
    have mf5 := m5.free 1
    have hW := Lib.hid (And.intro t4 (And.intro m5 (And.intro k4 (And.intro ht4 (And.intro F4 (And.intro m4 (And.intro hP4 hsz)))))))
    clear t4 m4 k4 ht4 F4 f4 tc tf k2 m5 hP4 hsz hs6
    go_wp2_with fail
    obtain ⟨t4, m5, k4, ht4, F4, m4, hP4, hsz⟩ := hW.out
    have f5 : Fr [w.heap.size + 1 + 1] w4 ((w4.alloc (.cells #[.int .i64 r1, .slice none 0 0] 52)).setCell ⟨w.heap.size + 1 + 1, 1, none⟩ (.pointer (some ⟨w4.heap.size, 0, none⟩))) := ((Fr.refl _ _).alloc _).setCell _ _ (.inl (by simp))
    have F5 : Fr [] w ((w4.alloc (.cells #[.int .i64 r1, .slice none 0 0] 52)).setCell ⟨w.heap.size + 1 + 1, 1, none⟩ (.pointer (some ⟨w4.heap.size, 0, none⟩))) := (F4.alloc _).setCell _ _ (.inr (by simp; omega))
    have m6 : Blk ((w4.alloc (.cells #[.int .i64 r1, .slice none 0 0] 52)).setCell ⟨w.heap.size + 1 + 1, 1, none⟩ (.pointer (some ⟨w4.heap.size, 0, none⟩))) (w.heap.size + 1 + 1) #[.pointer (some ⟨c0, 0, none⟩), .pointer (some ⟨w4.heap.size, 0, none⟩)] 48 := by simpa using m5.set 1 (.pointer (some ⟨w4.heap.size, 0, none⟩))
    have t6 := f5.blk t4 (by simp)
    have hml := m4.lt
    have c6 := (Blk.new w4 #[.int .i64 r1, .slice none 0 0] 52).other ⟨w.heap.size + 1 + 1, 1, none⟩ (.pointer (some ⟨w4.heap.size, 0, none⟩)) (by simp; omega)
    have hs6 := HC.out.2.2.2.1.lt
    have ht6 := ht4.fr f5 (by have := HA.out.2.2.1; simp at this ⊢; omega) (fun g hg hm => by have := HA.out.2.2.2.1 g hg; simp at this hm; omega)
    have hP6 := hP4.fr f5 (fun g hg hm => by
      simp at hm; subst hm
      exact ps_ty hP4 m4 (by decide) (by decide) (by decide) (by decide) hg)
    obtain ⟨c1, hc1⟩ : ∃ c, c = w4.heap.size := ⟨_, rfl⟩
    have hplt := ps_lt hP4
    have hps6 := ps_lt HC.out.1
    rw [← hc1] at f5 F5 m6 t6 c6 ht6 hP6 ⊢
    generalize World.setCell _ _ _ = w7 at *
    have hP1 : PT b1 c1 v1 (.slice none 0 0) [] r1 w7 := ⟨ht6, ⟨c6, World.ownsRow_nil _ _ _ _, List.Pairwise.nil, by simp, by simp⟩, HA.out.2.2.2.2.2.2⟩
    have hTP : TP w b0 c0 r0 [] b1 c1 r1 [] [] w7 := by
      refine ⟨⟨v0, _, v1, _, hP6, hP1, fun g hg hg2 => ?_, fun g hg => ?_, fun g hg => ?_, by simp⟩, by simp, F5⟩
      · have h5 := hps6 g hg
        have h6 := hplt g hg
        simp only [PS, List.mem_cons, List.mem_append, Option.mem_toList, Value.ownBlock] at hg2
        rcases hg2 with q | q | q | q
        · have := HA.out.2.2.1; omega
        · omega
        · have := HA.out.2.2.2.1 g q; omega
        · cases q
      · simp only [PS, List.mem_cons, List.mem_append, Option.mem_toList, Value.ownBlock] at hg
        rcases hg with q | q | q | q
        · rw [q]; exact HD.out.1
        · rw [q]; exact HC.out.2.2.2.2.2
        · exact HD.out.2 g q
        · cases q
      · simp only [PS, List.mem_cons, List.mem_append, Option.mem_toList, Value.ownBlock] at hg
        have := HC.out.2.2.2.2.1.size
        rcases hg with q | q | q | q
        · have := HA.out.2.2.1; omega
        · omega
        · have := HA.out.2.2.2.1 g q; omega
        · cases q
    have HP := Lib.hid (And.intro hTP (And.intro t6 m6))
    obtain ⟨bx, hbx⟩ : ∃ b, b = w.heap.size := ⟨_, rfl⟩
    obtain ⟨bt, hbt⟩ : ∃ b, b = w.heap.size + 1 := ⟨_, rfl⟩
    obtain ⟨bm, hbm⟩ : ∃ b, b = w.heap.size + 1 + 1 := ⟨_, rfl⟩
    rw [← hbm, ← hbt] at HP ⊢
    rw [← hbx]
    clear hW HB HA HC HD t4 m5 k4 ht4 F4 m4 hP4 hsz f5 F5 m6 t6 hml c6 hs6 ht6 hP6 hplt hps6 hP1 hTP hc1 hbx hbt hbm kc mc5 mf5
    rw [rounds_succ]
    go_wp2_with fail
    go_loopw [10, 11] (fun vl iw wr => ∃ i : Nat, iw = .int .i64 i ∧ i ≤ n ∧ Lp w bt bm b0 c0 b1 c1 r0 r1 i vl wr) (fun _ iw _ => n - (intOf iw).toNat)
    case atStart => exact ⟨0, rfl, Nat.zero_le _, ⟨[], [], [], Nat.zero_le _, World.ownsRow_nil _ _ _ _, by simp [Value.ownBlock], HP.out.1, HP.out.2.1, HP.out.2.2⟩⟩
    case round =>
      obtain ⟨i, rfl, hi, hL⟩ := hrel
      obtain ⟨wi, hwi⟩ : ∃ wi : World, wi = wr := ⟨_, rfl⟩
      rw [← hwi] at hL ⊢
      clear hwi wr
      obtain ⟨vl, hvv⟩ : ∃ v, v = u10 := ⟨_, rfl⟩
      rw [← hvv] at hL ⊢
      clear hvv
      obtain ⟨L, R0, R1, hLi, hown, hvl, hTP, hbt, hbm⟩ := hL.ex
      have HL := Lib.hid (And.intro hown (And.intro hvl (And.intro hTP (And.intro hbt hbm))))
      by_cases hin : i < n
      · have hlt : i < l.length := by rw [← HS.out.1]; exact hin
        obtain ⟨x, hx⟩ : ∃ x, l[i]? = some x := ⟨_, List.getElem?_eq_getElem hlt⟩
        obtain ⟨g, o, rfl, hc⟩ := HS.out.2.1.resolve_left (by omega)
        have HX := Lib.hid (And.intro (HS.out.2.2 x (List.mem_of_getElem? hx)) (hc i x hx))
        obtain ⟨d, oth, id, val, all⟩ := x
        dsimp only at HX
        have s0 := (hTP.fr.cell (World.block_lt_of_cell? w _ HX.out.2.1) (by simp)).trans HX.out.2.1
        have s1 := (hTP.fr.cell (World.block_lt_of_cell? w _ HX.out.2.2.1) (by simp)).trans HX.out.2.2.1
        have g0 : (0 : Int) ≤ (i : Int) := by omega
        have g1 : (i : Int) < (n : Int) := by omega
        clear hown hvl hTP hbt hbm hL hx hlt hc
        cases oth with
        | false =>
          by_cases h5 : d = 5
          · subst h5
            go_wp2_with fail
            clear s0 s1
            refine region_tail (by kernel_rfl) (by kernel_rfl) [[], [], [1], [1, 2], [1, 2, 3], [], [5], [5, 6], [1, 2, 3, 4, 5, 6, 7], [1, 2, 3, 4, 5, 6, 7, 8], [1, 2, 3, 4, 5, 6, 7, 8, 9], [0, 1, 2, 3, 4, 5, 6, 7, 8, 9, 10], [0, 1, 2, 3, 4, 5, 6, 7, 8, 9, 10, 11]] (by kernel_rfl) 11 (by decide) (by kernel_rfl) [.is (vl), .is (.int .i64 0), .is (.pointer (some ⟨bt, 0, none⟩)), .is (.pointer (some ⟨b0, 0, none⟩)), .walk wi.heap.size R0, .is (.int .i64 0), .is (.pointer (some ⟨bm, 0, none⟩)), .is (.pointer (some ⟨c0, 0, none⟩)), .copy wi.heap.size R0, .kept wi.heap.size R0, .one wi.heap.size R0] 155 rfl (by kernel_rfl) ?_ ?_
            · intro q a1 W1 i hi hnq hd hG K hK
              have hlt : i < 11 := hi
              have hc : i = 0 ∨ i = 1 ∨ i = 2 ∨ i = 3 ∨ i = 4 ∨ i = 5 ∨ i = 6 ∨ i = 7 ∨ i = 8 ∨ i = 9 ∨ i = 10 := by omega
              rcases hc with rfl | rfl | rfl | rfl | rfl | rfl | rfl | rfl | rfl | rfl | rfl
              · have e10 := hG.yet 155 (by kernel_rfl) 10 12 (by decide) rfl (fun h => hnq (hG.closed 12 h _ rfl ⟨0, .phase⟩ (by simp) rfl))
                refine op_do rfl (wanted_none rfl) hK (fun K' hK' => ?_)
                unfold Oper.wp
                go_simp
                exact hK' _ _ (Fr.refl _ _) rfl
              · have e12 := hG.old 12 (by kernel_rfl)
                refine op_do rfl (wanted_none rfl) hK (fun K' hK' => ?_)
                unfold Oper.wp
                go_simp
                exact hK' _ _ (Fr.refl _ _) rfl
              · have e5 := hG.old 5 (by kernel_rfl)
                have e73 := hG.val (v := .int .i64 0) 1 73 (hd _ rfl ⟨1, .data⟩ (by simp) rfl) rfl rfl
                have a0 := (hG.grown.cell (a := ⟨bt, 0, none⟩) HL.out.2.2.2.1.lt (by simp)).trans (HL.out.2.2.2.1.at 0 rfl)
                refine op_do rfl (wanted_none rfl) hK (fun K' hK' => ?_)
                unfold Oper.wp
                go_simp
                exact hK' _ _ (Fr.refl _ _) rfl
              · have e74 := hG.val (v := .pointer (some ⟨bt, 0, none⟩)) 2 74 (hd _ rfl ⟨2, .data⟩ (by simp) rfl) rfl rfl
                have a0 := (hG.grown.cell (a := ⟨bt, 0, none⟩) HL.out.2.2.2.1.lt (by simp)).trans (HL.out.2.2.2.1.at 0 (v := .pointer (some ⟨b0, 0, none⟩)) rfl)
                refine op_do rfl (wanted_none rfl) hK (fun K' hK' => ?_)
                unfold Oper.wp
                go_simp
                exact hK' _ _ (Fr.refl _ _) rfl
              · have e75 := hG.val (v := .pointer (some ⟨b0, 0, none⟩)) 3 75 (hd _ rfl ⟨3, .data⟩ (by simp) rfl) rfl rfl
                refine op_do rfl (wanted_none rfl) hK (fun K' hK' => ?_)
                unfold Oper.wp
                go_simp
                obtain ⟨v0, u0, v1, u1, hp0, _⟩ := (HL.out.2.2.1.grow hG.grown).ex
                refine (allV_any W1 b0 v0 (mapV R0) r0 hp0.tab).mono ?_
                rintro e W2 ⟨bk, lv, rfl, hb, hc, hge, f⟩
                refine hK' _ _ f ⟨bk, lv, rfl, ⟨hb, hc.1⟩, Nat.le_trans hG.grown.size hge, fun g hg => ?_⟩
                obtain ⟨g', q, hq⟩ := hc.2
                rw [q] at hg
                cases hg
                exact Nat.le_trans hG.grown.size hq
              · have e12 := hG.old 12 (by kernel_rfl)
                refine op_do rfl (wanted_none rfl) hK (fun K' hK' => ?_)
                unfold Oper.wp
                go_simp
                exact hK' _ _ (Fr.refl _ _) rfl
              · have e6 := hG.old 6 (by kernel_rfl)
                have e77 := hG.val (v := .int .i64 0) 5 77 (hd _ rfl ⟨5, .data⟩ (by simp) rfl) rfl rfl
                refine op_do rfl (wanted_none rfl) hK (fun K' hK' => ?_)
                unfold Oper.wp
                go_simp
                exact hK' _ _ (Fr.refl _ _) rfl
              · have e78 := hG.val (v := .pointer (some ⟨bm, 0, none⟩)) 6 78 (hd _ rfl ⟨6, .data⟩ (by simp) rfl) rfl rfl
                have a0 := (hG.grown.cell (a := ⟨bm, 0, none⟩) HL.out.2.2.2.2.lt (by simp)).trans (HL.out.2.2.2.2.at 0 (v := .pointer (some ⟨c0, 0, none⟩)) rfl)
                refine op_do rfl (wanted_none rfl) hK (fun K' hK' => ?_)
                unfold Oper.wp
                go_simp
                exact hK' _ _ (Fr.refl _ _) rfl
              · have e79 := hG.val (v := .pointer (some ⟨c0, 0, none⟩)) 7 79 (hd _ rfl ⟨7, .data⟩ (by simp) rfl) rfl rfl
                refine op_do rfl (wanted_none rfl) hK (fun K' hK' => ?_)
                unfold Oper.wp
                go_simp
                obtain ⟨v0, u0, v1, u1, hp0, _⟩ := (HL.out.2.2.1.grow hG.grown).ex
                refine (rcopy_any W1 c0 u0 R0 r0 hp0.ref).mono ?_
                rintro e W2 ⟨⟨v', rfl, ho, hge⟩, f⟩
                exact hK' _ _ f ⟨ho, fun g hg => Nat.le_trans hG.grown.size (hge g hg)⟩
              · obtain ⟨u4, e76, s4⟩ := hG.get 4 76 (hd _ rfl ⟨4, .data⟩ (by simp) rfl) rfl
                obtain ⟨u8, e80, s8⟩ := hG.get 8 80 (hd _ rfl ⟨8, .data⟩ (by simp) rfl) rfl
                obtain ⟨bk, lv, rfl, hh, hh1, hh2⟩ := s4
                obtain ⟨wp, wc, rfl⟩ := own_form s8.1
                refine op_do rfl (wanted_none rfl) hK (fun K' hK' => ?_)
                unfold Oper.wp
                go_simp
                refine hK' _ _ (Fr.refl _ _) ⟨⟨bk, lv, .slice wp (List.length R0) wc, R0⟩, rfl, ⟨hh, s8.1, HL.out.2.2.1.lim⟩, fun g hg => ?_, ⟨_, _, rfl⟩, rfl⟩
                simp only [Kp.blocks, List.mem_cons, List.mem_append, Option.mem_toList] at hg
                rcases hg with q | q | q
                · rw [q]; exact hh1
                · exact hh2 g q
                · exact s8.2 g q
              · obtain ⟨u9, e81, s9⟩ := hG.get 9 81 (hd _ rfl ⟨9, .data⟩ (by simp) rfl) rfl
                obtain ⟨e9, k1, k2, k3, k4, rfl⟩ := s9
                simp only [Kp.cells] at e81
                refine op_do rfl (wanted_none rfl) hK (fun K' hK' => ?_)
                unfold Oper.wp
                go_simp
                exact hK' _ _ ((Fr.refl _ _).alloc _) ⟨e9, _, k1, k2.fr ((Fr.refl [] W1).alloc _) (by simp), k3, k4, rfl, Blk.new W1 _ _⟩
            · intro q a1 W1 hq hG
              have f1 := hG.grown
              obtain ⟨vs, hv, rfl⟩ := hG.front 155 rfl (by kernel_rfl) (by decide) hq [(0, 72), (1, 73), (2, 74), (3, 75), (4, 76), (5, 77), (6, 78), (7, 79), (8, 80), (9, 81), (10, 82)] (by kernel_rfl)
              clear hG hq
              have r0 : vs 0 = vl := hv 0 72 (by decide) rfl
              have r1 : vs 1 = .int .i64 0 := hv 1 73 (by decide) rfl
              have r2 : vs 2 = .pointer (some ⟨bt, 0, none⟩) := hv 2 74 (by decide) rfl
              have r3 : vs 3 = .pointer (some ⟨b0, 0, none⟩) := hv 3 75 (by decide) rfl
              have r4 := hv 4 76 (by decide) rfl
              have r5 : vs 5 = .int .i64 0 := hv 5 77 (by decide) rfl
              have r6 : vs 6 = .pointer (some ⟨bm, 0, none⟩) := hv 6 78 (by decide) rfl
              have r7 : vs 7 = .pointer (some ⟨c0, 0, none⟩) := hv 7 79 (by decide) rfl
              have r8 := hv 8 80 (by decide) rfl
              have r9 := hv 9 81 (by decide) rfl
              have r10 := hv 10 82 (by decide) rfl
              simp only [List.drop_succ_cons, List.drop_zero, lay, List.foldl_cons, List.foldl_nil, r0, r1, r2, r3, r5, r6, r7]
              simp only [List.setIfInBounds_toArray, List.set_cons_zero, List.set_cons_succ]
              clear hv r0 r1 r2 r3 r5 r6 r7
              generalize vs 4 = x4 at *
              generalize vs 8 = x8 at *
              generalize vs 9 = x9 at *
              generalize vs 10 = x10 at *
              clear vs
              obtain ⟨e9, k, k1, k2, k3, ⟨p9, c9, k4⟩, rfl, k6⟩ := r10
              have hown := own_fr HL.out.1 f1 (by simp)
              have hTP := (HL.out.2.2.1.grow f1)
              have hbt := f1.blk HL.out.2.2.2.1 (by simp)
              have hbm := f1.blk HL.out.2.2.2.2 (by simp)
              have hcell : ∀ j u, e9.cells[j]? = some u → W1.cell? ((⟨k, 0, none⟩ : Addr).add j) = some u := fun j u hj => by
                rw [Addr.add_lit, Nat.zero_add]
                exact k6.at j (by simpa using hj)
              have hone : ∀ u, u ∈ e9.cells → u.oneCell' = true := by
                intro u hu
                simp only [Kp.cells, List.mem_cons, List.not_mem_nil, or_false] at hu
                rcases hu with rfl | rfl
                · rfl
                · rw [k4]; rfl
              have HH := Lib.hid (And.intro hown (And.intro hTP (And.intro hbt (And.intro hbm (And.intro hcell (And.intro hone (And.intro k1 (And.intro k2 k3))))))))
              clear hown hTP hbt hbm hcell hone k1 k2 k3 k4 k6 r4 r8 r9
              have HG := Lib.hid f1
              clear f1
              go_wp2_with (at_builtin; go_must (refine wpList_app _ rfl _ _ 53 rfl 61 (.agg #[.nilFunc, .slice none 0 0]) 2 32 Tryd.underlying53 info61 rfl (by decide) vl L.length (kcells L) rfl HH.out.1 ⟨k, 0, none⟩ 1 1 e9.cells rfl rfl HH.out.2.2.2.2.1 HH.out.2.2.2.2.2.1 (by unfold maxLen; omega) (by omega) ?_); intro vl2 w5 happ; have HAP := Lib.hid happ; clear happ)
              obtain ⟨hown, hTP, hbt, hbm, -, -, hk1, hk2, hk3⟩ := HH.out
              have hT2 := (HL.out.2.2.1.more HG.out hk2 hk3)
              have hT3 := hT2.aside HAP.out.fr (fun k hk => ⟨HL.out.2.1 k (by simpa using hk), own_blk hown k hk⟩)
              have hb3 := HAP.out.fr.blk hbt (own_notin hown hbt (by decide))
              have hm3 := HAP.out.fr.blk hbm (own_notin hown hbm (by decide))
              have ho3 : w5.ownsRow 0 61 2 vl2 (L ++ [e9]).length (kcells (L ++ [e9])) := by
                rw [kcells_snoc, List.length_append]
                exact HAP.out.own
              have hv3 : ∀ g, vl2.ownBlock = some g → w.heap.size ≤ g := fun g hg => by
                rcases HAP.out.place with q | q
                · exact HL.out.2.1 g (by rw [← q]; exact hg)
                · rw [q] at hg; cases hg; exact Nat.le_trans HL.out.2.2.1.fr.size HG.out.size
              have HM := Lib.hid (And.intro ho3 (And.intro hv3 (And.intro hT3 (And.intro hb3 hm3))))
              clear hown hTP hbt hbm hk1 hk2 hk3 hT2 hT3 hb3 hm3 ho3 hv3
              refine region_tail (by kernel_rfl) (by kernel_rfl) [[], [0], [0, 1], [], [3], [3, 4], [], [], [6, 7], [6, 7, 8], [0, 1, 2, 3, 4, 5, 6, 7, 8, 9], [0, 1, 2, 3, 4, 5, 6, 7, 8, 9, 10]] (by kernel_rfl) 10 (by decide) (by kernel_rfl) [.is (.int .i64 0), .is (.pointer (some ⟨bt, 0, none⟩)), .is (.pointer (some ⟨b0, 0, none⟩)), .is (.int .i64 0), .is (.pointer (some ⟨bm, 0, none⟩)), .is (.pointer (some ⟨c0, 0, none⟩)), .is (.slice (some ⟨g, o, none⟩) n sc), .is (.int .i64 i), .is (.pointer (some ⟨g, o + i * 5, none⟩)), .is (Stp.val' (Stp.mk 5 false id val all))] 155 rfl (by kernel_rfl) ?_ ?_
              · intro q a1 W1 i hi hnq hd hG K hK
                have hlt : i < 10 := hi
                have hc : i = 0 ∨ i = 1 ∨ i = 2 ∨ i = 3 ∨ i = 4 ∨ i = 5 ∨ i = 6 ∨ i = 7 ∨ i = 8 ∨ i = 9 := by omega
                rcases hc with rfl | rfl | rfl | rfl | rfl | rfl | rfl | rfl | rfl | rfl
                · have e12 := hG.old 12 (by kernel_rfl)
                  refine op_do rfl (wanted_none rfl) hK (fun K' hK' => ?_)
                  unfold Oper.wp
                  go_simp
                  exact hK' _ _ (Fr.refl _ _) rfl
                · have e5 := hG.old 5 (by kernel_rfl)
                  have e84 := hG.val (v := .int .i64 0) 0 84 (hd _ rfl ⟨0, .data⟩ (by simp) rfl) rfl rfl
                  have a0 := (hG.grown.cell (a := ⟨bt, 0, none⟩) HM.out.2.2.2.1.lt (by simp)).trans (HM.out.2.2.2.1.at 0 (v := .pointer (some ⟨b0, 0, none⟩)) rfl)
                  refine op_do rfl (wanted_none rfl) hK (fun K' hK' => ?_)
                  unfold Oper.wp
                  go_simp
                  exact hK' _ _ (Fr.refl _ _) rfl
                · have e85 := hG.val (v := .pointer (some ⟨bt, 0, none⟩)) 1 85 (hd _ rfl ⟨1, .data⟩ (by simp) rfl) rfl rfl
                  have a0 := (hG.grown.cell (a := ⟨bt, 0, none⟩) HM.out.2.2.2.1.lt (by simp)).trans (HM.out.2.2.2.1.at 0 (v := .pointer (some ⟨b0, 0, none⟩)) rfl)
                  refine op_do rfl (wanted_none rfl) hK (fun K' hK' => ?_)
                  unfold Oper.wp
                  go_simp
                  exact hK' _ _ (Fr.refl _ _) rfl
                · have e12 := hG.old 12 (by kernel_rfl)
                  refine op_do rfl (wanted_none rfl) hK (fun K' hK' => ?_)
                  unfold Oper.wp
                  go_simp
                  exact hK' _ _ (Fr.refl _ _) rfl
                · have e6 := hG.old 6 (by kernel_rfl)
                  have e87 := hG.val (v := .int .i64 0) 3 87 (hd _ rfl ⟨3, .data⟩ (by simp) rfl) rfl rfl
                  have a0 := (hG.grown.cell (a := ⟨bm, 0, none⟩) HM.out.2.2.2.2.lt (by simp)).trans (HM.out.2.2.2.2.at 0 (v := .pointer (some ⟨c0, 0, none⟩)) rfl)
                  refine op_do rfl (wanted_none rfl) hK (fun K' hK' => ?_)
                  unfold Oper.wp
                  go_simp
                  exact hK' _ _ (Fr.refl _ _) rfl
                · have e88 := hG.val (v := .pointer (some ⟨bm, 0, none⟩)) 4 88 (hd _ rfl ⟨4, .data⟩ (by simp) rfl) rfl rfl
                  have a0 := (hG.grown.cell (a := ⟨bm, 0, none⟩) HM.out.2.2.2.2.lt (by simp)).trans (HM.out.2.2.2.2.at 0 (v := .pointer (some ⟨c0, 0, none⟩)) rfl)
                  refine op_do rfl (wanted_none rfl) hK (fun K' hK' => ?_)
                  unfold Oper.wp
                  go_simp
                  exact hK' _ _ (Fr.refl _ _) rfl
                · have e1 := hG.old 1 (by kernel_rfl)
                  refine op_do rfl (wanted_none rfl) hK (fun K' hK' => ?_)
                  unfold Oper.wp
                  go_simp
                  exact hK' _ _ (Fr.refl _ _) rfl
                · have e11 := hG.old 11 (by kernel_rfl)
                  refine op_do rfl (wanted_none rfl) hK (fun K' hK' => ?_)
                  unfold Oper.wp
                  go_simp
                  exact hK' _ _ (Fr.refl _ _) rfl
                · have e90 := hG.val (v := .slice (some ⟨g, o, none⟩) n sc) 6 90 (hd _ rfl ⟨6, .data⟩ (by simp) rfl) rfl rfl
                  have e91 := hG.val (v := .int .i64 i) 7 91 (hd _ rfl ⟨7, .data⟩ (by simp) rfl) rfl rfl
                  have g0 : (0 : Int) ≤ (i : Int) := by omega
                  have g1 : (i : Int) < (n : Int) := by omega
                  refine op_do rfl (wanted_none rfl) hK (fun K' hK' => ?_)
                  unfold Oper.wp
                  go_simp
                  exact hK' _ _ (Fr.refl _ _) rfl
                · have e92 := hG.val (v := .pointer (some ⟨g, o + i * 5, none⟩)) 8 92 (hd _ rfl ⟨8, .data⟩ (by simp) rfl) rfl rfl
                  obtain ⟨y0, y1, y2, y3, y4⟩ := HX.out.2
                  have z0 := ((HM.out.2.2.1.fr.trans hG.grown (by simp)).cell (World.block_lt_of_cell? w _ y0) (by simp)).trans y0
                  have z1 := ((HM.out.2.2.1.fr.trans hG.grown (by simp)).cell (World.block_lt_of_cell? w _ y1) (by simp)).trans y1
                  have z2 := ((HM.out.2.2.1.fr.trans hG.grown (by simp)).cell (World.block_lt_of_cell? w _ y2) (by simp)).trans y2
                  have z3 := ((HM.out.2.2.1.fr.trans hG.grown (by simp)).cell (World.block_lt_of_cell? w _ y3) (by simp)).trans y3
                  have z4 := ((HM.out.2.2.1.fr.trans hG.grown (by simp)).cell (World.block_lt_of_cell? w _ y4) (by simp)).trans y4
                  clear y0 y1 y2 y3 y4
                  refine op_do rfl (wanted_none rfl) hK (fun K' hK' => ?_)
                  unfold Oper.wp
                  go_simp
                  exact hK' _ _ (Fr.refl _ _) rfl
              · intro q a1 W1 hq hG
                have f1 := hG.grown
                obtain ⟨vs, hv, rfl⟩ := hG.front 155 rfl (by kernel_rfl) (by decide) hq [(0, 84), (1, 85), (2, 86), (3, 87), (4, 88), (5, 89), (6, 90), (7, 91), (8, 92), (9, 93)] (by kernel_rfl)
                clear hG hq
                have r0 : vs 0 = .int .i64 0 := hv 0 84 (by decide) rfl
                have r1 : vs 1 = .pointer (some ⟨bt, 0, none⟩) := hv 1 85 (by decide) rfl
                have r2 : vs 2 = .pointer (some ⟨b0, 0, none⟩) := hv 2 86 (by decide) rfl
                have r3 : vs 3 = .int .i64 0 := hv 3 87 (by decide) rfl
                have r4 : vs 4 = .pointer (some ⟨bm, 0, none⟩) := hv 4 88 (by decide) rfl
                have r5 : vs 5 = .pointer (some ⟨c0, 0, none⟩) := hv 5 89 (by decide) rfl
                have r6 : vs 6 = .slice (some ⟨g, o, none⟩) n sc := hv 6 90 (by decide) rfl
                have r7 : vs 7 = .int .i64 i := hv 7 91 (by decide) rfl
                have r8 : vs 8 = .pointer (some ⟨g, o + i * 5, none⟩) := hv 8 92 (by decide) rfl
                have r9 : vs 9 = Stp.val' (Stp.mk 5 false id val all) := hv 9 93 (by decide) rfl
                simp only [List.drop_succ_cons, List.drop_zero, lay, List.foldl_cons, List.foldl_nil, r0, r1, r2, r3, r4, r5, r6, r7, r8, r9]
                simp only [List.setIfInBounds_toArray, List.set_cons_zero, List.set_cons_succ]
                clear hv r0 r1 r2 r3 r4 r5 r6 r7 r8 r9
                clear vs
                have F1 := Lib.hid f1
                clear f1
                go_wp2_with fail
                (with_reducible refine (tp_done (HM.out.2.2.1.grow F1.out) (Stp.mk 5 false id val all) HX.out.1).mono ?_)
                rintro e W2 ⟨rfl, htp, hk⟩
                have HE := Lib.hid (And.intro htp hk)
                clear htp hk
                go_wp2_with fail
                refine ⟨⟨i + 1, by go_num, by omega, ⟨(L ++ [e9]), _, _, by first | (simp; omega) | omega, own_ty (own_fr HM.out.1 F1.out (by simp)) HE.out.2 (by decide), HM.out.2.1, HE.out.1, HE.out.2 _ _ _ (by decide) (F1.out.blk HM.out.2.2.2.1 (by simp)), HE.out.2 _ _ _ (by decide) (F1.out.blk HM.out.2.2.2.2 (by simp))⟩⟩, by simp [intOf]; omega⟩
          · go_wp2_with fail
            clear s0 s1
            refine region_tail (by kernel_rfl) (by kernel_rfl) [[], [0], [0, 1], [], [3], [3, 4], [], [], [6, 7], [6, 7, 8], [0, 1, 2, 3, 4, 5, 6, 7, 8, 9], [0, 1, 2, 3, 4, 5, 6, 7, 8, 9, 10]] (by kernel_rfl) 10 (by decide) (by kernel_rfl) [.is (.int .i64 0), .is (.pointer (some ⟨bt, 0, none⟩)), .is (.pointer (some ⟨b0, 0, none⟩)), .is (.int .i64 0), .is (.pointer (some ⟨bm, 0, none⟩)), .is (.pointer (some ⟨c0, 0, none⟩)), .is (.slice (some ⟨g, o, none⟩) n sc), .is (.int .i64 i), .is (.pointer (some ⟨g, o + i * 5, none⟩)), .is (Stp.val' (Stp.mk d false id val all))] 155 rfl (by kernel_rfl) ?_ ?_
            · intro q a1 W1 i hi hnq hd hG K hK
              have hlt : i < 10 := hi
              have hc : i = 0 ∨ i = 1 ∨ i = 2 ∨ i = 3 ∨ i = 4 ∨ i = 5 ∨ i = 6 ∨ i = 7 ∨ i = 8 ∨ i = 9 := by omega
              rcases hc with rfl | rfl | rfl | rfl | rfl | rfl | rfl | rfl | rfl | rfl
              · have e12 := hG.old 12 (by kernel_rfl)
                refine op_do rfl (wanted_none rfl) hK (fun K' hK' => ?_)
                unfold Oper.wp
                go_simp
                exact hK' _ _ (Fr.refl _ _) rfl
              · have e5 := hG.old 5 (by kernel_rfl)
                have e84 := hG.val (v := .int .i64 0) 0 84 (hd _ rfl ⟨0, .data⟩ (by simp) rfl) rfl rfl
                have a0 := (hG.grown.cell (a := ⟨bt, 0, none⟩) HL.out.2.2.2.1.lt (by simp)).trans (HL.out.2.2.2.1.at 0 (v := .pointer (some ⟨b0, 0, none⟩)) rfl)
                refine op_do rfl (wanted_none rfl) hK (fun K' hK' => ?_)
                unfold Oper.wp
                go_simp
                exact hK' _ _ (Fr.refl _ _) rfl
              · have e85 := hG.val (v := .pointer (some ⟨bt, 0, none⟩)) 1 85 (hd _ rfl ⟨1, .data⟩ (by simp) rfl) rfl rfl
                have a0 := (hG.grown.cell (a := ⟨bt, 0, none⟩) HL.out.2.2.2.1.lt (by simp)).trans (HL.out.2.2.2.1.at 0 (v := .pointer (some ⟨b0, 0, none⟩)) rfl)
                refine op_do rfl (wanted_none rfl) hK (fun K' hK' => ?_)
                unfold Oper.wp
                go_simp
                exact hK' _ _ (Fr.refl _ _) rfl
              · have e12 := hG.old 12 (by kernel_rfl)
                refine op_do rfl (wanted_none rfl) hK (fun K' hK' => ?_)
                unfold Oper.wp
                go_simp
                exact hK' _ _ (Fr.refl _ _) rfl
              · have e6 := hG.old 6 (by kernel_rfl)
                have e87 := hG.val (v := .int .i64 0) 3 87 (hd _ rfl ⟨3, .data⟩ (by simp) rfl) rfl rfl
                have a0 := (hG.grown.cell (a := ⟨bm, 0, none⟩) HL.out.2.2.2.2.lt (by simp)).trans (HL.out.2.2.2.2.at 0 (v := .pointer (some ⟨c0, 0, none⟩)) rfl)
                refine op_do rfl (wanted_none rfl) hK (fun K' hK' => ?_)
                unfold Oper.wp
                go_simp
                exact hK' _ _ (Fr.refl _ _) rfl
              · have e88 := hG.val (v := .pointer (some ⟨bm, 0, none⟩)) 4 88 (hd _ rfl ⟨4, .data⟩ (by simp) rfl) rfl rfl
                have a0 := (hG.grown.cell (a := ⟨bm, 0, none⟩) HL.out.2.2.2.2.lt (by simp)).trans (HL.out.2.2.2.2.at 0 (v := .pointer (some ⟨c0, 0, none⟩)) rfl)
                refine op_do rfl (wanted_none rfl) hK (fun K' hK' => ?_)
                unfold Oper.wp
                go_simp
                exact hK' _ _ (Fr.refl _ _) rfl
              · have e1 := hG.old 1 (by kernel_rfl)
                refine op_do rfl (wanted_none rfl) hK (fun K' hK' => ?_)
                unfold Oper.wp
                go_simp
                exact hK' _ _ (Fr.refl _ _) rfl
              · have e11 := hG.old 11 (by kernel_rfl)
                refine op_do rfl (wanted_none rfl) hK (fun K' hK' => ?_)
                unfold Oper.wp
                go_simp
                exact hK' _ _ (Fr.refl _ _) rfl
              · have e90 := hG.val (v := .slice (some ⟨g, o, none⟩) n sc) 6 90 (hd _ rfl ⟨6, .data⟩ (by simp) rfl) rfl rfl
                have e91 := hG.val (v := .int .i64 i) 7 91 (hd _ rfl ⟨7, .data⟩ (by simp) rfl) rfl rfl
                have g0 : (0 : Int) ≤ (i : Int) := by omega
                have g1 : (i : Int) < (n : Int) := by omega
                refine op_do rfl (wanted_none rfl) hK (fun K' hK' => ?_)
                unfold Oper.wp
                go_simp
                exact hK' _ _ (Fr.refl _ _) rfl
              · have e92 := hG.val (v := .pointer (some ⟨g, o + i * 5, none⟩)) 8 92 (hd _ rfl ⟨8, .data⟩ (by simp) rfl) rfl rfl
                obtain ⟨y0, y1, y2, y3, y4⟩ := HX.out.2
                have z0 := ((HL.out.2.2.1.fr.trans hG.grown (by simp)).cell (World.block_lt_of_cell? w _ y0) (by simp)).trans y0
                have z1 := ((HL.out.2.2.1.fr.trans hG.grown (by simp)).cell (World.block_lt_of_cell? w _ y1) (by simp)).trans y1
                have z2 := ((HL.out.2.2.1.fr.trans hG.grown (by simp)).cell (World.block_lt_of_cell? w _ y2) (by simp)).trans y2
                have z3 := ((HL.out.2.2.1.fr.trans hG.grown (by simp)).cell (World.block_lt_of_cell? w _ y3) (by simp)).trans y3
                have z4 := ((HL.out.2.2.1.fr.trans hG.grown (by simp)).cell (World.block_lt_of_cell? w _ y4) (by simp)).trans y4
                clear y0 y1 y2 y3 y4
                refine op_do rfl (wanted_none rfl) hK (fun K' hK' => ?_)
                unfold Oper.wp
                go_simp
                exact hK' _ _ (Fr.refl _ _) rfl
            · intro q a1 W1 hq hG
              have f1 := hG.grown
              obtain ⟨vs, hv, rfl⟩ := hG.front 155 rfl (by kernel_rfl) (by decide) hq [(0, 84), (1, 85), (2, 86), (3, 87), (4, 88), (5, 89), (6, 90), (7, 91), (8, 92), (9, 93)] (by kernel_rfl)
              clear hG hq
              have r0 : vs 0 = .int .i64 0 := hv 0 84 (by decide) rfl
              have r1 : vs 1 = .pointer (some ⟨bt, 0, none⟩) := hv 1 85 (by decide) rfl
              have r2 : vs 2 = .pointer (some ⟨b0, 0, none⟩) := hv 2 86 (by decide) rfl
              have r3 : vs 3 = .int .i64 0 := hv 3 87 (by decide) rfl
              have r4 : vs 4 = .pointer (some ⟨bm, 0, none⟩) := hv 4 88 (by decide) rfl
              have r5 : vs 5 = .pointer (some ⟨c0, 0, none⟩) := hv 5 89 (by decide) rfl
              have r6 : vs 6 = .slice (some ⟨g, o, none⟩) n sc := hv 6 90 (by decide) rfl
              have r7 : vs 7 = .int .i64 i := hv 7 91 (by decide) rfl
              have r8 : vs 8 = .pointer (some ⟨g, o + i * 5, none⟩) := hv 8 92 (by decide) rfl
              have r9 : vs 9 = Stp.val' (Stp.mk d false id val all) := hv 9 93 (by decide) rfl
              simp only [List.drop_succ_cons, List.drop_zero, lay, List.foldl_cons, List.foldl_nil, r0, r1, r2, r3, r4, r5, r6, r7, r8, r9]
              simp only [List.setIfInBounds_toArray, List.set_cons_zero, List.set_cons_succ]
              clear hv r0 r1 r2 r3 r4 r5 r6 r7 r8 r9
              clear vs
              have F1 := Lib.hid f1
              clear f1
              go_wp2_with fail
              (with_reducible refine (tp_done (HL.out.2.2.1.grow F1.out) (Stp.mk d false id val all) HX.out.1).mono ?_)
              rintro e W2 ⟨rfl, htp, hk⟩
              have HE := Lib.hid (And.intro htp hk)
              clear htp hk
              go_wp2_with fail
              refine ⟨⟨i + 1, by go_num, by omega, ⟨L, _, _, by first | (simp; omega) | omega, own_ty (own_fr HL.out.1 F1.out (by simp)) HE.out.2 (by decide), HL.out.2.1, HE.out.1, HE.out.2 _ _ _ (by decide) (F1.out.blk HL.out.2.2.2.1 (by simp)), HE.out.2 _ _ _ (by decide) (F1.out.blk HL.out.2.2.2.2 (by simp))⟩⟩, by simp [intOf]; omega⟩
        | true =>
          by_cases h5 : d = 5
          · subst h5
            go_wp2_with fail
            clear s0 s1
            refine region_tail (by kernel_rfl) (by kernel_rfl) [[], [], [1], [1, 2], [1, 2, 3], [], [5], [5, 6], [1, 2, 3, 4, 5, 6, 7], [1, 2, 3, 4, 5, 6, 7, 8], [1, 2, 3, 4, 5, 6, 7, 8, 9], [0, 1, 2, 3, 4, 5, 6, 7, 8, 9, 10], [0, 1, 2, 3, 4, 5, 6, 7, 8, 9, 10, 11]] (by kernel_rfl) 11 (by decide) (by kernel_rfl) [.is (vl), .is (.int .i64 1), .is (.pointer (some ⟨bt, 1, none⟩)), .is (.pointer (some ⟨b1, 0, none⟩)), .walk wi.heap.size R1, .is (.int .i64 1), .is (.pointer (some ⟨bm, 1, none⟩)), .is (.pointer (some ⟨c1, 0, none⟩)), .copy wi.heap.size R1, .kept wi.heap.size R1, .one wi.heap.size R1] 155 rfl (by kernel_rfl) ?_ ?_
            · intro q a1 W1 i hi hnq hd hG K hK
              have hlt : i < 11 := hi
              have hc : i = 0 ∨ i = 1 ∨ i = 2 ∨ i = 3 ∨ i = 4 ∨ i = 5 ∨ i = 6 ∨ i = 7 ∨ i = 8 ∨ i = 9 ∨ i = 10 := by omega
              rcases hc with rfl | rfl | rfl | rfl | rfl | rfl | rfl | rfl | rfl | rfl | rfl
              · have e10 := hG.yet 155 (by kernel_rfl) 10 12 (by decide) rfl (fun h => hnq (hG.closed 12 h _ rfl ⟨0, .phase⟩ (by simp) rfl))
                refine op_do rfl (wanted_none rfl) hK (fun K' hK' => ?_)
                unfold Oper.wp
                go_simp
                exact hK' _ _ (Fr.refl _ _) rfl
              · have e12 := hG.old 12 (by kernel_rfl)
                refine op_do rfl (wanted_none rfl) hK (fun K' hK' => ?_)
                unfold Oper.wp
                go_simp
                exact hK' _ _ (Fr.refl _ _) rfl
              · have e5 := hG.old 5 (by kernel_rfl)
                have e73 := hG.val (v := .int .i64 1) 1 73 (hd _ rfl ⟨1, .data⟩ (by simp) rfl) rfl rfl
                have a0 := (hG.grown.cell (a := ⟨bt, 1, none⟩) HL.out.2.2.2.1.lt (by simp)).trans (HL.out.2.2.2.1.at 1 rfl)
                refine op_do rfl (wanted_none rfl) hK (fun K' hK' => ?_)
                unfold Oper.wp
                go_simp
                exact hK' _ _ (Fr.refl _ _) rfl
              · have e74 := hG.val (v := .pointer (some ⟨bt, 1, none⟩)) 2 74 (hd _ rfl ⟨2, .data⟩ (by simp) rfl) rfl rfl
                have a0 := (hG.grown.cell (a := ⟨bt, 1, none⟩) HL.out.2.2.2.1.lt (by simp)).trans (HL.out.2.2.2.1.at 1 (v := .pointer (some ⟨b1, 0, none⟩)) rfl)
                refine op_do rfl (wanted_none rfl) hK (fun K' hK' => ?_)
                unfold Oper.wp
                go_simp
                exact hK' _ _ (Fr.refl _ _) rfl
              · have e75 := hG.val (v := .pointer (some ⟨b1, 0, none⟩)) 3 75 (hd _ rfl ⟨3, .data⟩ (by simp) rfl) rfl rfl
                refine op_do rfl (wanted_none rfl) hK (fun K' hK' => ?_)
                unfold Oper.wp
                go_simp
                obtain ⟨v0, u0, v1, u1, hp0, _⟩ := (HL.out.2.2.1.swap.grow hG.grown).ex
                refine (allV_any W1 b1 v0 (mapV R1) r1 hp0.tab).mono ?_
                rintro e W2 ⟨bk, lv, rfl, hb, hc, hge, f⟩
                refine hK' _ _ f ⟨bk, lv, rfl, ⟨hb, hc.1⟩, Nat.le_trans hG.grown.size hge, fun g hg => ?_⟩
                obtain ⟨g', q, hq⟩ := hc.2
                rw [q] at hg
                cases hg
                exact Nat.le_trans hG.grown.size hq
              · have e12 := hG.old 12 (by kernel_rfl)
                refine op_do rfl (wanted_none rfl) hK (fun K' hK' => ?_)
                unfold Oper.wp
                go_simp
                exact hK' _ _ (Fr.refl _ _) rfl
              · have e6 := hG.old 6 (by kernel_rfl)
                have e77 := hG.val (v := .int .i64 1) 5 77 (hd _ rfl ⟨5, .data⟩ (by simp) rfl) rfl rfl
                refine op_do rfl (wanted_none rfl) hK (fun K' hK' => ?_)
                unfold Oper.wp
                go_simp
                exact hK' _ _ (Fr.refl _ _) rfl
              · have e78 := hG.val (v := .pointer (some ⟨bm, 1, none⟩)) 6 78 (hd _ rfl ⟨6, .data⟩ (by simp) rfl) rfl rfl
                have a0 := (hG.grown.cell (a := ⟨bm, 1, none⟩) HL.out.2.2.2.2.lt (by simp)).trans (HL.out.2.2.2.2.at 1 (v := .pointer (some ⟨c1, 0, none⟩)) rfl)
                refine op_do rfl (wanted_none rfl) hK (fun K' hK' => ?_)
                unfold Oper.wp
                go_simp
                exact hK' _ _ (Fr.refl _ _) rfl
              · have e79 := hG.val (v := .pointer (some ⟨c1, 0, none⟩)) 7 79 (hd _ rfl ⟨7, .data⟩ (by simp) rfl) rfl rfl
                refine op_do rfl (wanted_none rfl) hK (fun K' hK' => ?_)
                unfold Oper.wp
                go_simp
                obtain ⟨v0, u0, v1, u1, hp0, _⟩ := (HL.out.2.2.1.swap.grow hG.grown).ex
                refine (rcopy_any W1 c1 u0 R1 r1 hp0.ref).mono ?_
                rintro e W2 ⟨⟨v', rfl, ho, hge⟩, f⟩
                exact hK' _ _ f ⟨ho, fun g hg => Nat.le_trans hG.grown.size (hge g hg)⟩
              · obtain ⟨u4, e76, s4⟩ := hG.get 4 76 (hd _ rfl ⟨4, .data⟩ (by simp) rfl) rfl
                obtain ⟨u8, e80, s8⟩ := hG.get 8 80 (hd _ rfl ⟨8, .data⟩ (by simp) rfl) rfl
                obtain ⟨bk, lv, rfl, hh, hh1, hh2⟩ := s4
                obtain ⟨wp, wc, rfl⟩ := own_form s8.1
                refine op_do rfl (wanted_none rfl) hK (fun K' hK' => ?_)
                unfold Oper.wp
                go_simp
                refine hK' _ _ (Fr.refl _ _) ⟨⟨bk, lv, .slice wp (List.length R1) wc, R1⟩, rfl, ⟨hh, s8.1, HL.out.2.2.1.swap.lim⟩, fun g hg => ?_, ⟨_, _, rfl⟩, rfl⟩
                simp only [Kp.blocks, List.mem_cons, List.mem_append, Option.mem_toList] at hg
                rcases hg with q | q | q
                · rw [q]; exact hh1
                · exact hh2 g q
                · exact s8.2 g q
              · obtain ⟨u9, e81, s9⟩ := hG.get 9 81 (hd _ rfl ⟨9, .data⟩ (by simp) rfl) rfl
                obtain ⟨e9, k1, k2, k3, k4, rfl⟩ := s9
                simp only [Kp.cells] at e81
                refine op_do rfl (wanted_none rfl) hK (fun K' hK' => ?_)
                unfold Oper.wp
                go_simp
                exact hK' _ _ ((Fr.refl _ _).alloc _) ⟨e9, _, k1, k2.fr ((Fr.refl [] W1).alloc _) (by simp), k3, k4, rfl, Blk.new W1 _ _⟩
            · intro q a1 W1 hq hG
              have f1 := hG.grown
              obtain ⟨vs, hv, rfl⟩ := hG.front 155 rfl (by kernel_rfl) (by decide) hq [(0, 72), (1, 73), (2, 74), (3, 75), (4, 76), (5, 77), (6, 78), (7, 79), (8, 80), (9, 81), (10, 82)] (by kernel_rfl)
              clear hG hq
              have r0 : vs 0 = vl := hv 0 72 (by decide) rfl
              have r1 : vs 1 = .int .i64 1 := hv 1 73 (by decide) rfl
              have r2 : vs 2 = .pointer (some ⟨bt, 1, none⟩) := hv 2 74 (by decide) rfl
              have r3 : vs 3 = .pointer (some ⟨b1, 0, none⟩) := hv 3 75 (by decide) rfl
              have r4 := hv 4 76 (by decide) rfl
              have r5 : vs 5 = .int .i64 1 := hv 5 77 (by decide) rfl
              have r6 : vs 6 = .pointer (some ⟨bm, 1, none⟩) := hv 6 78 (by decide) rfl
              have r7 : vs 7 = .pointer (some ⟨c1, 0, none⟩) := hv 7 79 (by decide) rfl
              have r8 := hv 8 80 (by decide) rfl
              have r9 := hv 9 81 (by decide) rfl
              have r10 := hv 10 82 (by decide) rfl
              simp only [List.drop_succ_cons, List.drop_zero, lay, List.foldl_cons, List.foldl_nil, r0, r1, r2, r3, r5, r6, r7]
              simp only [List.setIfInBounds_toArray, List.set_cons_zero, List.set_cons_succ]
              clear hv r0 r1 r2 r3 r5 r6 r7
              generalize vs 4 = x4 at *
              generalize vs 8 = x8 at *
              generalize vs 9 = x9 at *
              generalize vs 10 = x10 at *
              clear vs
              obtain ⟨e9, k, k1, k2, k3, ⟨p9, c9, k4⟩, rfl, k6⟩ := r10
              have hown := own_fr HL.out.1 f1 (by simp)
              have hTP := (HL.out.2.2.1.swap.grow f1)
              have hbt := f1.blk HL.out.2.2.2.1 (by simp)
              have hbm := f1.blk HL.out.2.2.2.2 (by simp)
              have hcell : ∀ j u, e9.cells[j]? = some u → W1.cell? ((⟨k, 0, none⟩ : Addr).add j) = some u := fun j u hj => by
                rw [Addr.add_lit, Nat.zero_add]
                exact k6.at j (by simpa using hj)
              have hone : ∀ u, u ∈ e9.cells → u.oneCell' = true := by
                intro u hu
                simp only [Kp.cells, List.mem_cons, List.not_mem_nil, or_false] at hu
                rcases hu with rfl | rfl
                · rfl
                · rw [k4]; rfl
              have HH := Lib.hid (And.intro hown (And.intro hTP (And.intro hbt (And.intro hbm (And.intro hcell (And.intro hone (And.intro k1 (And.intro k2 k3))))))))
              clear hown hTP hbt hbm hcell hone k1 k2 k3 k4 k6 r4 r8 r9
              have HG := Lib.hid f1
              clear f1
              go_wp2_with (at_builtin; go_must (refine wpList_app _ rfl _ _ 53 rfl 61 (.agg #[.nilFunc, .slice none 0 0]) 2 32 Tryd.underlying53 info61 rfl (by decide) vl L.length (kcells L) rfl HH.out.1 ⟨k, 0, none⟩ 1 1 e9.cells rfl rfl HH.out.2.2.2.2.1 HH.out.2.2.2.2.2.1 (by unfold maxLen; omega) (by omega) ?_); intro vl2 w5 happ; have HAP := Lib.hid happ; clear happ)
              obtain ⟨hown, hTP, hbt, hbm, -, -, hk1, hk2, hk3⟩ := HH.out
              have hT2 := (HL.out.2.2.1.swap.more HG.out hk2 hk3).swap
              have hT3 := hT2.aside HAP.out.fr (fun k hk => ⟨HL.out.2.1 k (by simpa using hk), own_blk hown k hk⟩)
              have hb3 := HAP.out.fr.blk hbt (own_notin hown hbt (by decide))
              have hm3 := HAP.out.fr.blk hbm (own_notin hown hbm (by decide))
              have ho3 : w5.ownsRow 0 61 2 vl2 (L ++ [e9]).length (kcells (L ++ [e9])) := by
                rw [kcells_snoc, List.length_append]
                exact HAP.out.own
              have hv3 : ∀ g, vl2.ownBlock = some g → w.heap.size ≤ g := fun g hg => by
                rcases HAP.out.place with q | q
                · exact HL.out.2.1 g (by rw [← q]; exact hg)
                · rw [q] at hg; cases hg; exact Nat.le_trans HL.out.2.2.1.swap.fr.size HG.out.size
              have HM := Lib.hid (And.intro ho3 (And.intro hv3 (And.intro hT3 (And.intro hb3 hm3))))
              clear hown hTP hbt hbm hk1 hk2 hk3 hT2 hT3 hb3 hm3 ho3 hv3
              refine region_tail (by kernel_rfl) (by kernel_rfl) [[], [0], [0, 1], [], [3], [3, 4], [], [], [6, 7], [6, 7, 8], [0, 1, 2, 3, 4, 5, 6, 7, 8, 9], [0, 1, 2, 3, 4, 5, 6, 7, 8, 9, 10]] (by kernel_rfl) 10 (by decide) (by kernel_rfl) [.is (.int .i64 1), .is (.pointer (some ⟨bt, 1, none⟩)), .is (.pointer (some ⟨b1, 0, none⟩)), .is (.int .i64 1), .is (.pointer (some ⟨bm, 1, none⟩)), .is (.pointer (some ⟨c1, 0, none⟩)), .is (.slice (some ⟨g, o, none⟩) n sc), .is (.int .i64 i), .is (.pointer (some ⟨g, o + i * 5, none⟩)), .is (Stp.val' (Stp.mk 5 true id val all))] 155 rfl (by kernel_rfl) ?_ ?_
              · intro q a1 W1 i hi hnq hd hG K hK
                have hlt : i < 10 := hi
                have hc : i = 0 ∨ i = 1 ∨ i = 2 ∨ i = 3 ∨ i = 4 ∨ i = 5 ∨ i = 6 ∨ i = 7 ∨ i = 8 ∨ i = 9 := by omega
                rcases hc with rfl | rfl | rfl | rfl | rfl | rfl | rfl | rfl | rfl | rfl
                · have e12 := hG.old 12 (by kernel_rfl)
                  refine op_do rfl (wanted_none rfl) hK (fun K' hK' => ?_)
                  unfold Oper.wp
                  go_simp
                  exact hK' _ _ (Fr.refl _ _) rfl
                · have e5 := hG.old 5 (by kernel_rfl)
                  have e84 := hG.val (v := .int .i64 1) 0 84 (hd _ rfl ⟨0, .data⟩ (by simp) rfl) rfl rfl
                  have a0 := (hG.grown.cell (a := ⟨bt, 1, none⟩) HM.out.2.2.2.1.lt (by simp)).trans (HM.out.2.2.2.1.at 1 (v := .pointer (some ⟨b1, 0, none⟩)) rfl)
                  refine op_do rfl (wanted_none rfl) hK (fun K' hK' => ?_)
                  unfold Oper.wp
                  go_simp
                  exact hK' _ _ (Fr.refl _ _) rfl
                · have e85 := hG.val (v := .pointer (some ⟨bt, 1, none⟩)) 1 85 (hd _ rfl ⟨1, .data⟩ (by simp) rfl) rfl rfl
                  have a0 := (hG.grown.cell (a := ⟨bt, 1, none⟩) HM.out.2.2.2.1.lt (by simp)).trans (HM.out.2.2.2.1.at 1 (v := .pointer (some ⟨b1, 0, none⟩)) rfl)
                  refine op_do rfl (wanted_none rfl) hK (fun K' hK' => ?_)
                  unfold Oper.wp
                  go_simp
                  exact hK' _ _ (Fr.refl _ _) rfl
                · have e12 := hG.old 12 (by kernel_rfl)
                  refine op_do rfl (wanted_none rfl) hK (fun K' hK' => ?_)
                  unfold Oper.wp
                  go_simp
                  exact hK' _ _ (Fr.refl _ _) rfl
                · have e6 := hG.old 6 (by kernel_rfl)
                  have e87 := hG.val (v := .int .i64 1) 3 87 (hd _ rfl ⟨3, .data⟩ (by simp) rfl) rfl rfl
                  have a0 := (hG.grown.cell (a := ⟨bm, 1, none⟩) HM.out.2.2.2.2.lt (by simp)).trans (HM.out.2.2.2.2.at 1 (v := .pointer (some ⟨c1, 0, none⟩)) rfl)
                  refine op_do rfl (wanted_none rfl) hK (fun K' hK' => ?_)
                  unfold Oper.wp
                  go_simp
                  exact hK' _ _ (Fr.refl _ _) rfl
                · have e88 := hG.val (v := .pointer (some ⟨bm, 1, none⟩)) 4 88 (hd _ rfl ⟨4, .data⟩ (by simp) rfl) rfl rfl
                  have a0 := (hG.grown.cell (a := ⟨bm, 1, none⟩) HM.out.2.2.2.2.lt (by simp)).trans (HM.out.2.2.2.2.at 1 (v := .pointer (some ⟨c1, 0, none⟩)) rfl)
                  refine op_do rfl (wanted_none rfl) hK (fun K' hK' => ?_)
                  unfold Oper.wp
                  go_simp
                  exact hK' _ _ (Fr.refl _ _) rfl
                · have e1 := hG.old 1 (by kernel_rfl)
                  refine op_do rfl (wanted_none rfl) hK (fun K' hK' => ?_)
                  unfold Oper.wp
                  go_simp
                  exact hK' _ _ (Fr.refl _ _) rfl
                · have e11 := hG.old 11 (by kernel_rfl)
                  refine op_do rfl (wanted_none rfl) hK (fun K' hK' => ?_)
                  unfold Oper.wp
                  go_simp
                  exact hK' _ _ (Fr.refl _ _) rfl
                · have e90 := hG.val (v := .slice (some ⟨g, o, none⟩) n sc) 6 90 (hd _ rfl ⟨6, .data⟩ (by simp) rfl) rfl rfl
                  have e91 := hG.val (v := .int .i64 i) 7 91 (hd _ rfl ⟨7, .data⟩ (by simp) rfl) rfl rfl
                  have g0 : (0 : Int) ≤ (i : Int) := by omega
                  have g1 : (i : Int) < (n : Int) := by omega
                  refine op_do rfl (wanted_none rfl) hK (fun K' hK' => ?_)
                  unfold Oper.wp
                  go_simp
                  exact hK' _ _ (Fr.refl _ _) rfl
                · have e92 := hG.val (v := .pointer (some ⟨g, o + i * 5, none⟩)) 8 92 (hd _ rfl ⟨8, .data⟩ (by simp) rfl) rfl rfl
                  obtain ⟨y0, y1, y2, y3, y4⟩ := HX.out.2
                  have z0 := ((HM.out.2.2.1.fr.trans hG.grown (by simp)).cell (World.block_lt_of_cell? w _ y0) (by simp)).trans y0
                  have z1 := ((HM.out.2.2.1.fr.trans hG.grown (by simp)).cell (World.block_lt_of_cell? w _ y1) (by simp)).trans y1
                  have z2 := ((HM.out.2.2.1.fr.trans hG.grown (by simp)).cell (World.block_lt_of_cell? w _ y2) (by simp)).trans y2
                  have z3 := ((HM.out.2.2.1.fr.trans hG.grown (by simp)).cell (World.block_lt_of_cell? w _ y3) (by simp)).trans y3
                  have z4 := ((HM.out.2.2.1.fr.trans hG.grown (by simp)).cell (World.block_lt_of_cell? w _ y4) (by simp)).trans y4
                  clear y0 y1 y2 y3 y4
                  refine op_do rfl (wanted_none rfl) hK (fun K' hK' => ?_)
                  unfold Oper.wp
                  go_simp
                  exact hK' _ _ (Fr.refl _ _) rfl
              · intro q a1 W1 hq hG
                have f1 := hG.grown
                obtain ⟨vs, hv, rfl⟩ := hG.front 155 rfl (by kernel_rfl) (by decide) hq [(0, 84), (1, 85), (2, 86), (3, 87), (4, 88), (5, 89), (6, 90), (7, 91), (8, 92), (9, 93)] (by kernel_rfl)
                clear hG hq
                have r0 : vs 0 = .int .i64 1 := hv 0 84 (by decide) rfl
                have r1 : vs 1 = .pointer (some ⟨bt, 1, none⟩) := hv 1 85 (by decide) rfl
                have r2 : vs 2 = .pointer (some ⟨b1, 0, none⟩) := hv 2 86 (by decide) rfl
                have r3 : vs 3 = .int .i64 1 := hv 3 87 (by decide) rfl
                have r4 : vs 4 = .pointer (some ⟨bm, 1, none⟩) := hv 4 88 (by decide) rfl
                have r5 : vs 5 = .pointer (some ⟨c1, 0, none⟩) := hv 5 89 (by decide) rfl
                have r6 : vs 6 = .slice (some ⟨g, o, none⟩) n sc := hv 6 90 (by decide) rfl
                have r7 : vs 7 = .int .i64 i := hv 7 91 (by decide) rfl
                have r8 : vs 8 = .pointer (some ⟨g, o + i * 5, none⟩) := hv 8 92 (by decide) rfl
                have r9 : vs 9 = Stp.val' (Stp.mk 5 true id val all) := hv 9 93 (by decide) rfl
                simp only [List.drop_succ_cons, List.drop_zero, lay, List.foldl_cons, List.foldl_nil, r0, r1, r2, r3, r4, r5, r6, r7, r8, r9]
                simp only [List.setIfInBounds_toArray, List.set_cons_zero, List.set_cons_succ]
                clear hv r0 r1 r2 r3 r4 r5 r6 r7 r8 r9
                clear vs
                have F1 := Lib.hid f1
                clear f1
                go_wp2_with fail
                (with_reducible refine (tp_done (HM.out.2.2.1.swap.grow F1.out) (Stp.mk 5 true id val all) HX.out.1).mono ?_)
                rintro e W2 ⟨rfl, htp, hk⟩
                have HE := Lib.hid (And.intro htp hk)
                clear htp hk
                go_wp2_with fail
                refine ⟨⟨i + 1, by go_num, by omega, ⟨(L ++ [e9]), _, _, by first | (simp; omega) | omega, own_ty (own_fr HM.out.1 F1.out (by simp)) HE.out.2 (by decide), HM.out.2.1, HE.out.1.swap, HE.out.2 _ _ _ (by decide) (F1.out.blk HM.out.2.2.2.1 (by simp)), HE.out.2 _ _ _ (by decide) (F1.out.blk HM.out.2.2.2.2 (by simp))⟩⟩, by simp [intOf]; omega⟩
          · go_wp2_with fail
            clear s0 s1
            refine region_tail (by kernel_rfl) (by kernel_rfl) [[], [0], [0, 1], [], [3], [3, 4], [], [], [6, 7], [6, 7, 8], [0, 1, 2, 3, 4, 5, 6, 7, 8, 9], [0, 1, 2, 3, 4, 5, 6, 7, 8, 9, 10]] (by kernel_rfl) 10 (by decide) (by kernel_rfl) [.is (.int .i64 1), .is (.pointer (some ⟨bt, 1, none⟩)), .is (.pointer (some ⟨b1, 0, none⟩)), .is (.int .i64 1), .is (.pointer (some ⟨bm, 1, none⟩)), .is (.pointer (some ⟨c1, 0, none⟩)), .is (.slice (some ⟨g, o, none⟩) n sc), .is (.int .i64 i), .is (.pointer (some ⟨g, o + i * 5, none⟩)), .is (Stp.val' (Stp.mk d true id val all))] 155 rfl (by kernel_rfl) ?_ ?_
            · intro q a1 W1 i hi hnq hd hG K hK
              have hlt : i < 10 := hi
              have hc : i = 0 ∨ i = 1 ∨ i = 2 ∨ i = 3 ∨ i = 4 ∨ i = 5 ∨ i = 6 ∨ i = 7 ∨ i = 8 ∨ i = 9 := by omega
              rcases hc with rfl | rfl | rfl | rfl | rfl | rfl | rfl | rfl | rfl | rfl
              · have e12 := hG.old 12 (by kernel_rfl)
                refine op_do rfl (wanted_none rfl) hK (fun K' hK' => ?_)
                unfold Oper.wp
                go_simp
                exact hK' _ _ (Fr.refl _ _) rfl
              · have e5 := hG.old 5 (by kernel_rfl)
                have e84 := hG.val (v := .int .i64 1) 0 84 (hd _ rfl ⟨0, .data⟩ (by simp) rfl) rfl rfl
                have a0 := (hG.grown.cell (a := ⟨bt, 1, none⟩) HL.out.2.2.2.1.lt (by simp)).trans (HL.out.2.2.2.1.at 1 (v := .pointer (some ⟨b1, 0, none⟩)) rfl)
                refine op_do rfl (wanted_none rfl) hK (fun K' hK' => ?_)
                unfold Oper.wp
                go_simp
                exact hK' _ _ (Fr.refl _ _) rfl
              · have e85 := hG.val (v := .pointer (some ⟨bt, 1, none⟩)) 1 85 (hd _ rfl ⟨1, .data⟩ (by simp) rfl) rfl rfl
                have a0 := (hG.grown.cell (a := ⟨bt, 1, none⟩) HL.out.2.2.2.1.lt (by simp)).trans (HL.out.2.2.2.1.at 1 (v := .pointer (some ⟨b1, 0, none⟩)) rfl)
                refine op_do rfl (wanted_none rfl) hK (fun K' hK' => ?_)
                unfold Oper.wp
                go_simp
                exact hK' _ _ (Fr.refl _ _) rfl
              · have e12 := hG.old 12 (by kernel_rfl)
                refine op_do rfl (wanted_none rfl) hK (fun K' hK' => ?_)
                unfold Oper.wp
                go_simp
                exact hK' _ _ (Fr.refl _ _) rfl
              · have e6 := hG.old 6 (by kernel_rfl)
                have e87 := hG.val (v := .int .i64 1) 3 87 (hd _ rfl ⟨3, .data⟩ (by simp) rfl) rfl rfl
                have a0 := (hG.grown.cell (a := ⟨bm, 1, none⟩) HL.out.2.2.2.2.lt (by simp)).trans (HL.out.2.2.2.2.at 1 (v := .pointer (some ⟨c1, 0, none⟩)) rfl)
                refine op_do rfl (wanted_none rfl) hK (fun K' hK' => ?_)
                unfold Oper.wp
                go_simp
                exact hK' _ _ (Fr.refl _ _) rfl
              · have e88 := hG.val (v := .pointer (some ⟨bm, 1, none⟩)) 4 88 (hd _ rfl ⟨4, .data⟩ (by simp) rfl) rfl rfl
                have a0 := (hG.grown.cell (a := ⟨bm, 1, none⟩) HL.out.2.2.2.2.lt (by simp)).trans (HL.out.2.2.2.2.at 1 (v := .pointer (some ⟨c1, 0, none⟩)) rfl)
                refine op_do rfl (wanted_none rfl) hK (fun K' hK' => ?_)
                unfold Oper.wp
                go_simp
                exact hK' _ _ (Fr.refl _ _) rfl
              · have e1 := hG.old 1 (by kernel_rfl)
                refine op_do rfl (wanted_none rfl) hK (fun K' hK' => ?_)
                unfold Oper.wp
                go_simp
                exact hK' _ _ (Fr.refl _ _) rfl
              · have e11 := hG.old 11 (by kernel_rfl)
                refine op_do rfl (wanted_none rfl) hK (fun K' hK' => ?_)
                unfold Oper.wp
                go_simp
                exact hK' _ _ (Fr.refl _ _) rfl
              · have e90 := hG.val (v := .slice (some ⟨g, o, none⟩) n sc) 6 90 (hd _ rfl ⟨6, .data⟩ (by simp) rfl) rfl rfl
                have e91 := hG.val (v := .int .i64 i) 7 91 (hd _ rfl ⟨7, .data⟩ (by simp) rfl) rfl rfl
                have g0 : (0 : Int) ≤ (i : Int) := by omega
                have g1 : (i : Int) < (n : Int) := by omega
                refine op_do rfl (wanted_none rfl) hK (fun K' hK' => ?_)
                unfold Oper.wp
                go_simp
                exact hK' _ _ (Fr.refl _ _) rfl
              · have e92 := hG.val (v := .pointer (some ⟨g, o + i * 5, none⟩)) 8 92 (hd _ rfl ⟨8, .data⟩ (by simp) rfl) rfl rfl
                obtain ⟨y0, y1, y2, y3, y4⟩ := HX.out.2
                have z0 := ((HL.out.2.2.1.fr.trans hG.grown (by simp)).cell (World.block_lt_of_cell? w _ y0) (by simp)).trans y0
                have z1 := ((HL.out.2.2.1.fr.trans hG.grown (by simp)).cell (World.block_lt_of_cell? w _ y1) (by simp)).trans y1
                have z2 := ((HL.out.2.2.1.fr.trans hG.grown (by simp)).cell (World.block_lt_of_cell? w _ y2) (by simp)).trans y2
                have z3 := ((HL.out.2.2.1.fr.trans hG.grown (by simp)).cell (World.block_lt_of_cell? w _ y3) (by simp)).trans y3
                have z4 := ((HL.out.2.2.1.fr.trans hG.grown (by simp)).cell (World.block_lt_of_cell? w _ y4) (by simp)).trans y4
                clear y0 y1 y2 y3 y4
                refine op_do rfl (wanted_none rfl) hK (fun K' hK' => ?_)
                unfold Oper.wp
                go_simp
                exact hK' _ _ (Fr.refl _ _) rfl
            · intro q a1 W1 hq hG
              have f1 := hG.grown
              obtain ⟨vs, hv, rfl⟩ := hG.front 155 rfl (by kernel_rfl) (by decide) hq [(0, 84), (1, 85), (2, 86), (3, 87), (4, 88), (5, 89), (6, 90), (7, 91), (8, 92), (9, 93)] (by kernel_rfl)
              clear hG hq
              have r0 : vs 0 = .int .i64 1 := hv 0 84 (by decide) rfl
              have r1 : vs 1 = .pointer (some ⟨bt, 1, none⟩) := hv 1 85 (by decide) rfl
              have r2 : vs 2 = .pointer (some ⟨b1, 0, none⟩) := hv 2 86 (by decide) rfl
              have r3 : vs 3 = .int .i64 1 := hv 3 87 (by decide) rfl
              have r4 : vs 4 = .pointer (some ⟨bm, 1, none⟩) := hv 4 88 (by decide) rfl
              have r5 : vs 5 = .pointer (some ⟨c1, 0, none⟩) := hv 5 89 (by decide) rfl
              have r6 : vs 6 = .slice (some ⟨g, o, none⟩) n sc := hv 6 90 (by decide) rfl
              have r7 : vs 7 = .int .i64 i := hv 7 91 (by decide) rfl
              have r8 : vs 8 = .pointer (some ⟨g, o + i * 5, none⟩) := hv 8 92 (by decide) rfl
              have r9 : vs 9 = Stp.val' (Stp.mk d true id val all) := hv 9 93 (by decide) rfl
              simp only [List.drop_succ_cons, List.drop_zero, lay, List.foldl_cons, List.foldl_nil, r0, r1, r2, r3, r4, r5, r6, r7, r8, r9]
              simp only [List.setIfInBounds_toArray, List.set_cons_zero, List.set_cons_succ]
              clear hv r0 r1 r2 r3 r4 r5 r6 r7 r8 r9
              clear vs
              have F1 := Lib.hid f1
              clear f1
              go_wp2_with fail
              (with_reducible refine (tp_done (HL.out.2.2.1.swap.grow F1.out) (Stp.mk d true id val all) HX.out.1).mono ?_)
              rintro e W2 ⟨rfl, htp, hk⟩
              have HE := Lib.hid (And.intro htp hk)
              clear htp hk
              go_wp2_with fail
              refine ⟨⟨i + 1, by go_num, by omega, ⟨L, _, _, by first | (simp; omega) | omega, own_ty (own_fr HL.out.1 F1.out (by simp)) HE.out.2 (by decide), HL.out.2.1, HE.out.1.swap, HE.out.2 _ _ _ (by decide) (F1.out.blk HL.out.2.2.2.1 (by simp)), HE.out.2 _ _ _ (by decide) (F1.out.blk HL.out.2.2.2.2 (by simp))⟩⟩, by simp [intOf]; omega⟩
      · obtain rfl : i = n := by omega
        obtain ⟨pl, cl, rfl⟩ := own_form hown
        obtain ⟨m, hm⟩ : ∃ m, m = L.length := ⟨_, rfl⟩
        have hown' := hown
        rw [← hm] at hown' HL ⊢
        have hgl : 0 < m → ∃ gl, pl = some ⟨gl, 0, none⟩ := fun h0 => by
          rcases hown'.2 with ⟨_, q⟩ | ⟨gl, _, _, q, _⟩
          · omega
          · cases q; exact ⟨gl, rfl⟩
        have HGL := Lib.hid (And.intro hgl hm)
        have hmn : m ≤ i := by omega
        clear hown hown' hvl hTP hbt hbm hL hLi hgl hm
        go_wp2_with fail
        go_loopw [13] (fun jw wr => ∃ j : Nat, jw = .int .i64 j ∧ j ≤ m ∧ Fr [] wi wr) (fun jw _ => m - (intOf jw).toNat)
        case atStart => exact ⟨0, rfl, Nat.zero_le _, Fr.refl _ _⟩
        case round =>
          obtain ⟨j, rfl, hj, hf⟩ := hrel
          obtain ⟨wk, hwk⟩ : ∃ wk : World, wk = wr := ⟨_, rfl⟩
          rw [← hwk] at hf ⊢
          clear hwk wr
          have HFK := Lib.hid hf
          clear hf
          by_cases hjm : j < m
          · have hlt : j < L.length := by rw [← HGL.out.2]; exact hjm
            obtain ⟨e, he⟩ : ∃ e, L[j]? = some e := ⟨_, List.getElem?_eq_getElem hlt⟩
            obtain ⟨gl, rfl⟩ := HGL.out.1 (by omega)
            have hk := (HL.out.2.2.1.kept e (List.mem_of_getElem? he)).fr HFK.out (by simp)
            have hca := kcells_at he
            have hc0 := HL.out.1.cells (g := gl) rfl (j * 2) _ hca.1
            have hc1 := HL.out.1.cells (g := gl) rfl (j * 2 + 1) _ hca.2
            rw [Addr.add_lit, Nat.zero_add] at hc0 hc1
            obtain ⟨bk, lv, wv, KK⟩ := e
            dsimp only at hc0 hc1
            obtain ⟨wp, wc, hwv⟩ := own_form hk.want
            dsimp only at hwv
            subst hwv
            have d0 := (HFK.out.cell (World.block_lt_of_cell? wi _ hc0) (by simp)).trans hc0
            have d1 := (HFK.out.cell (World.block_lt_of_cell? wi _ hc1) (by simp)).trans hc1
            have HC := Lib.hid (And.intro hk (And.intro d0 d1))
            have g0 : (0 : Int) ≤ (j : Int) := by omega
            have g1 : (j : Int) < (m : Int) := by omega
            clear hk hca hc0 hc1 d0 d1 he hlt
            go_wp2_with fail
            refine region_grow (by kernel_rfl) (by kernel_rfl) [.is (.slice (some ⟨gl, 0, none⟩) m cl), .is (.int .i64 j), .is (.pointer (some ⟨gl, j * 2, none⟩)), .is (.pointer (some ⟨gl, j * 2, none⟩)), .is (.func (.func 67) #[] #[.pointer (some ⟨bk, 0, none⟩)]), .rdp KK, .is (.slice (some ⟨gl, 0, none⟩) m cl), .is (.int .i64 j), .is (.pointer (some ⟨gl, j * 2, none⟩)), .is (.pointer (some ⟨gl, j * 2 + 1, none⟩)), .is (.slice wp (List.length KK) wc), .is (.bool true), .is (.bool false), .is (.bool false), .is (.slice (some ⟨gl, 0, none⟩) m cl), .is (.int .i64 j), .is (.pointer (some ⟨gl, j * 2, none⟩)), .is (.pointer (some ⟨gl, j * 2, none⟩)), .is (.func (.func 67) #[] #[.pointer (some ⟨bk, 0, none⟩)]), .rdp KK, .is (.slice (some ⟨gl, 0, none⟩) m cl), .is (.int .i64 j), .is (.pointer (some ⟨gl, j * 2, none⟩)), .is (.pointer (some ⟨gl, j * 2 + 1, none⟩)), .is (.slice wp (List.length KK) wc), .is (.bool true), .is (.bool false), .is (.bool false)] 155 rfl (by kernel_rfl) [(0, 102), (1, 103), (2, 104), (3, 105), (4, 106), (5, 107), (6, 108), (7, 109), (8, 110), (9, 111), (10, 112), (11, 113), (12, 114), (13, 115), (14, 116), (15, 117), (16, 118), (17, 119), (18, 120), (19, 121), (20, 122), (21, 123), (22, 124), (23, 125), (24, 126), (25, 127), (26, 128), (27, 129)] (by kernel_rfl) ?_ ?_
            · intro q a1 W1 i hi hnq hd hG K hK
              have hlt : i < 28 := hi
              have hc : i = 0 ∨ i = 1 ∨ i = 2 ∨ i = 3 ∨ i = 4 ∨ i = 5 ∨ i = 6 ∨ i = 7 ∨ i = 8 ∨ i = 9 ∨ i = 10 ∨ i = 11 ∨ i = 12 ∨ i = 13 ∨ i = 14 ∨ i = 15 ∨ i = 16 ∨ i = 17 ∨ i = 18 ∨ i = 19 ∨ i = 20 ∨ i = 21 ∨ i = 22 ∨ i = 23 ∨ i = 24 ∨ i = 25 ∨ i = 26 ∨ i = 27 := by omega
              rcases hc with rfl | rfl | rfl | rfl | rfl | rfl | rfl | rfl | rfl | rfl | rfl | rfl | rfl | rfl | rfl | rfl | rfl | rfl | rfl | rfl | rfl | rfl | rfl | rfl | rfl | rfl | rfl | rfl
              · have e10 := hG.old 10 (by kernel_rfl)
                refine op_do rfl (wanted_none rfl) hK (fun K' hK' => ?_)
                unfold Oper.wp
                go_simp
                exact hK' _ _ (Fr.refl _ _) rfl
              · have e13 := hG.old 13 (by kernel_rfl)
                refine op_do rfl (wanted_none rfl) hK (fun K' hK' => ?_)
                unfold Oper.wp
                go_simp
                exact hK' _ _ (Fr.refl _ _) rfl
              · have e102 := hG.val (v := .slice (some ⟨gl, 0, none⟩) m cl) 0 102 (hd _ rfl ⟨0, .data⟩ (by simp) rfl) rfl rfl
                have e103 := hG.val (v := .int .i64 j) 1 103 (hd _ rfl ⟨1, .data⟩ (by simp) rfl) rfl rfl
                refine op_do rfl (wanted_none rfl) hK (fun K' hK' => ?_)
                unfold Oper.wp
                go_simp
                exact hK' _ _ (Fr.refl _ _) rfl
              · have e104 := hG.val (v := .pointer (some ⟨gl, j * 2, none⟩)) 2 104 (hd _ rfl ⟨2, .data⟩ (by simp) rfl) rfl rfl
                refine op_do rfl (wanted_none rfl) hK (fun K' hK' => ?_)
                unfold Oper.wp
                go_simp
                exact hK' _ _ (Fr.refl _ _) rfl
              · have e105 := hG.val (v := .pointer (some ⟨gl, j * 2, none⟩)) 3 105 (hd _ rfl ⟨3, .data⟩ (by simp) rfl) rfl rfl
                have z0 := (hG.grown.cell (World.block_lt_of_cell? wk _ HC.out.2.1) (by simp)).trans HC.out.2.1
                refine op_do rfl (wanted_none rfl) hK (fun K' hK' => ?_)
                unfold Oper.wp
                go_simp
                exact hK' _ _ (Fr.refl _ _) rfl
              · have e106 := hG.val (v := .func (.func 67) #[] #[.pointer (some ⟨bk, 0, none⟩)]) 4 106 (hd _ rfl ⟨4, .data⟩ (by simp) rfl) rfl rfl
                refine op_do rfl (wanted_none rfl) hK (fun K' hK' => ?_)
                unfold Oper.wp
                go_simp
                refine (pairs_any W1 bk lv KK 0 (HC.out.1.held.fr0 hG.grown) HC.out.1.lim).mono ?_
                rintro e W2 ⟨v2, rfl, hrd, f⟩
                exact hK' _ _ f hrd
              · have e10 := hG.old 10 (by kernel_rfl)
                refine op_do rfl (wanted_none rfl) hK (fun K' hK' => ?_)
                unfold Oper.wp
                go_simp
                exact hK' _ _ (Fr.refl _ _) rfl
              · have e13 := hG.old 13 (by kernel_rfl)
                refine op_do rfl (wanted_none rfl) hK (fun K' hK' => ?_)
                unfold Oper.wp
                go_simp
                exact hK' _ _ (Fr.refl _ _) rfl
              · have e108 := hG.val (v := .slice (some ⟨gl, 0, none⟩) m cl) 6 108 (hd _ rfl ⟨6, .data⟩ (by simp) rfl) rfl rfl
                have e109 := hG.val (v := .int .i64 j) 7 109 (hd _ rfl ⟨7, .data⟩ (by simp) rfl) rfl rfl
                refine op_do rfl (wanted_none rfl) hK (fun K' hK' => ?_)
                unfold Oper.wp
                go_simp
                exact hK' _ _ (Fr.refl _ _) rfl
              · have e110 := hG.val (v := .pointer (some ⟨gl, j * 2, none⟩)) 8 110 (hd _ rfl ⟨8, .data⟩ (by simp) rfl) rfl rfl
                refine op_do rfl (wanted_none rfl) hK (fun K' hK' => ?_)
                unfold Oper.wp
                go_simp
                exact hK' _ _ (Fr.refl _ _) rfl
              · have e111 := hG.val (v := .pointer (some ⟨gl, j * 2 + 1, none⟩)) 9 111 (hd _ rfl ⟨9, .data⟩ (by simp) rfl) rfl rfl
                have z1 := (hG.grown.cell (World.block_lt_of_cell? wk _ HC.out.2.2) (by simp)).trans HC.out.2.2
                refine op_do rfl (wanted_none rfl) hK (fun K' hK' => ?_)
                unfold Oper.wp
                go_simp
                exact hK' _ _ (Fr.refl _ _) rfl
              · obtain ⟨u5, e107, s5⟩ := hG.get 5 107 (hd _ rfl ⟨5, .data⟩ (by simp) rfl) rfl
                have e112 := hG.val (v := .slice wp (List.length KK) wc) 10 112 (hd _ rfl ⟨10, .data⟩ (by simp) rfl) rfl rfl
                refine op_do rfl (wanted_none rfl) hK (fun K' hK' => ?_)
                unfold Oper.wp
                go_simp
                refine (same_any W1 _ _ KK s5 (RdP.of_own (n := KK.length) (own_fr HC.out.1.want hG.grown (by simp))) HC.out.1.lim).mono ?_
                rintro e W2 ⟨rfl, f⟩
                exact hK' _ _ f rfl
              · have e113 := hG.val (v := .bool true) 11 113 (hd _ rfl ⟨11, .data⟩ (by simp) rfl) rfl rfl
                refine op_do rfl (wanted_none rfl) hK (fun K' hK' => ?_)
                unfold Oper.wp
                go_simp
                exact hK' _ _ (Fr.refl _ _) rfl
              · have e114 := hG.val (v := .bool false) 12 114 (hd _ rfl ⟨12, .data⟩ (by simp) rfl) rfl rfl
                refine op_do rfl (wanted_none rfl) hK (fun K' hK' => ?_)
                unfold Oper.wp
                go_simp
                exact hK' _ _ (Fr.refl _ _) rfl
              · have e10 := hG.old 10 (by kernel_rfl)
                have eg := hG.val (v := .bool false) 13 115 (hd _ rfl ⟨13, .guard⟩ (by simp) rfl) rfl rfl
                refine op_do rfl (by simp [Region.wanted, yielded, eg]) hK (fun K' hK' => ?_)
                unfold Oper.wp
                go_simp
                exact hK' _ _ (Fr.refl _ _) rfl
              · have e13 := hG.old 13 (by kernel_rfl)
                have eg := hG.val (v := .bool false) 13 115 (hd _ rfl ⟨13, .guard⟩ (by simp) rfl) rfl rfl
                refine op_do rfl (by simp [Region.wanted, yielded, eg]) hK (fun K' hK' => ?_)
                unfold Oper.wp
                go_simp
                exact hK' _ _ (Fr.refl _ _) rfl
              · have e116 := hG.val (v := .slice (some ⟨gl, 0, none⟩) m cl) 14 116 (hd _ rfl ⟨14, .data⟩ (by simp) rfl) rfl rfl
                have e117 := hG.val (v := .int .i64 j) 15 117 (hd _ rfl ⟨15, .data⟩ (by simp) rfl) rfl rfl
                have eg := hG.val (v := .bool false) 13 115 (hd _ rfl ⟨13, .guard⟩ (by simp) rfl) rfl rfl
                refine op_do rfl (by simp [Region.wanted, yielded, eg]) hK (fun K' hK' => ?_)
                unfold Oper.wp
                go_simp
                exact hK' _ _ (Fr.refl _ _) rfl
              · have e118 := hG.val (v := .pointer (some ⟨gl, j * 2, none⟩)) 16 118 (hd _ rfl ⟨16, .data⟩ (by simp) rfl) rfl rfl
                have eg := hG.val (v := .bool false) 13 115 (hd _ rfl ⟨13, .guard⟩ (by simp) rfl) rfl rfl
                refine op_do rfl (by simp [Region.wanted, yielded, eg]) hK (fun K' hK' => ?_)
                unfold Oper.wp
                go_simp
                exact hK' _ _ (Fr.refl _ _) rfl
              · have e119 := hG.val (v := .pointer (some ⟨gl, j * 2, none⟩)) 17 119 (hd _ rfl ⟨17, .data⟩ (by simp) rfl) rfl rfl
                have eg := hG.val (v := .bool false) 13 115 (hd _ rfl ⟨13, .guard⟩ (by simp) rfl) rfl rfl
                have z0 := (hG.grown.cell (World.block_lt_of_cell? wk _ HC.out.2.1) (by simp)).trans HC.out.2.1
                refine op_do rfl (by simp [Region.wanted, yielded, eg]) hK (fun K' hK' => ?_)
                unfold Oper.wp
                go_simp
                exact hK' _ _ (Fr.refl _ _) rfl
              · have e120 := hG.val (v := .func (.func 67) #[] #[.pointer (some ⟨bk, 0, none⟩)]) 18 120 (hd _ rfl ⟨18, .data⟩ (by simp) rfl) rfl rfl
                have eg := hG.val (v := .bool false) 13 115 (hd _ rfl ⟨13, .guard⟩ (by simp) rfl) rfl rfl
                refine op_do rfl (by simp [Region.wanted, yielded, eg]) hK (fun K' hK' => ?_)
                unfold Oper.wp
                go_simp
                refine (pairs_any W1 bk lv KK 0 (HC.out.1.held.fr0 hG.grown) HC.out.1.lim).mono ?_
                rintro e W2 ⟨v2, rfl, hrd, f⟩
                exact hK' _ _ f hrd
              · have e10 := hG.old 10 (by kernel_rfl)
                have eg := hG.val (v := .bool false) 13 115 (hd _ rfl ⟨13, .guard⟩ (by simp) rfl) rfl rfl
                refine op_do rfl (by simp [Region.wanted, yielded, eg]) hK (fun K' hK' => ?_)
                unfold Oper.wp
                go_simp
                exact hK' _ _ (Fr.refl _ _) rfl
              · have e13 := hG.old 13 (by kernel_rfl)
                have eg := hG.val (v := .bool false) 13 115 (hd _ rfl ⟨13, .guard⟩ (by simp) rfl) rfl rfl
                refine op_do rfl (by simp [Region.wanted, yielded, eg]) hK (fun K' hK' => ?_)
                unfold Oper.wp
                go_simp
                exact hK' _ _ (Fr.refl _ _) rfl
              · have e122 := hG.val (v := .slice (some ⟨gl, 0, none⟩) m cl) 20 122 (hd _ rfl ⟨20, .data⟩ (by simp) rfl) rfl rfl
                have e123 := hG.val (v := .int .i64 j) 21 123 (hd _ rfl ⟨21, .data⟩ (by simp) rfl) rfl rfl
                have eg := hG.val (v := .bool false) 13 115 (hd _ rfl ⟨13, .guard⟩ (by simp) rfl) rfl rfl
                refine op_do rfl (by simp [Region.wanted, yielded, eg]) hK (fun K' hK' => ?_)
                unfold Oper.wp
                go_simp
                exact hK' _ _ (Fr.refl _ _) rfl
              · have e124 := hG.val (v := .pointer (some ⟨gl, j * 2, none⟩)) 22 124 (hd _ rfl ⟨22, .data⟩ (by simp) rfl) rfl rfl
                have eg := hG.val (v := .bool false) 13 115 (hd _ rfl ⟨13, .guard⟩ (by simp) rfl) rfl rfl
                refine op_do rfl (by simp [Region.wanted, yielded, eg]) hK (fun K' hK' => ?_)
                unfold Oper.wp
                go_simp
                exact hK' _ _ (Fr.refl _ _) rfl
              · have e125 := hG.val (v := .pointer (some ⟨gl, j * 2 + 1, none⟩)) 23 125 (hd _ rfl ⟨23, .data⟩ (by simp) rfl) rfl rfl
                have eg := hG.val (v := .bool false) 13 115 (hd _ rfl ⟨13, .guard⟩ (by simp) rfl) rfl rfl
                have z1 := (hG.grown.cell (World.block_lt_of_cell? wk _ HC.out.2.2) (by simp)).trans HC.out.2.2
                refine op_do rfl (by simp [Region.wanted, yielded, eg]) hK (fun K' hK' => ?_)
                unfold Oper.wp
                go_simp
                exact hK' _ _ (Fr.refl _ _) rfl
              · obtain ⟨u19, e121, s19⟩ := hG.get 19 121 (hd _ rfl ⟨19, .data⟩ (by simp) rfl) rfl
                have e126 := hG.val (v := .slice wp (List.length KK) wc) 24 126 (hd _ rfl ⟨24, .data⟩ (by simp) rfl) rfl rfl
                have eg := hG.val (v := .bool false) 13 115 (hd _ rfl ⟨13, .guard⟩ (by simp) rfl) rfl rfl
                refine op_do rfl (by simp [Region.wanted, yielded, eg]) hK (fun K' hK' => ?_)
                unfold Oper.wp
                go_simp
                refine (same_any W1 _ _ KK s19 (RdP.of_own (n := KK.length) (own_fr HC.out.1.want hG.grown (by simp))) HC.out.1.lim).mono ?_
                rintro e W2 ⟨rfl, f⟩
                exact hK' _ _ f rfl
              · have e127 := hG.val (v := .bool true) 25 127 (hd _ rfl ⟨25, .data⟩ (by simp) rfl) rfl rfl
                have eg := hG.val (v := .bool false) 13 115 (hd _ rfl ⟨13, .guard⟩ (by simp) rfl) rfl rfl
                refine op_do rfl (by simp [Region.wanted, yielded, eg]) hK (fun K' hK' => ?_)
                unfold Oper.wp
                go_simp
                exact hK' _ _ (Fr.refl _ _) rfl
              · have e115 := hG.val (v := .bool false) 13 115 (hd _ rfl ⟨13, .data⟩ (by simp) rfl) rfl rfl
                have e128 := hG.val (v := .bool false) 26 128 (hd _ rfl ⟨26, .data⟩ (by simp) rfl) rfl rfl
                refine op_do rfl (wanted_none rfl) hK (fun K' hK' => ?_)
                unfold Oper.wp
                go_simp
                exact hK' _ _ (Fr.refl _ _) rfl
            · intro vs W1 f1 hv
              have r0 : vs 0 = .slice (some ⟨gl, 0, none⟩) m cl := hv 0 102 (by decide) rfl
              have r1 : vs 1 = .int .i64 j := hv 1 103 (by decide) rfl
              have r2 : vs 2 = .pointer (some ⟨gl, j * 2, none⟩) := hv 2 104 (by decide) rfl
              have r3 : vs 3 = .pointer (some ⟨gl, j * 2, none⟩) := hv 3 105 (by decide) rfl
              have r4 : vs 4 = .func (.func 67) #[] #[.pointer (some ⟨bk, 0, none⟩)] := hv 4 106 (by decide) rfl
              have r5 := hv 5 107 (by decide) rfl
              have r6 : vs 6 = .slice (some ⟨gl, 0, none⟩) m cl := hv 6 108 (by decide) rfl
              have r7 : vs 7 = .int .i64 j := hv 7 109 (by decide) rfl
              have r8 : vs 8 = .pointer (some ⟨gl, j * 2, none⟩) := hv 8 110 (by decide) rfl
              have r9 : vs 9 = .pointer (some ⟨gl, j * 2 + 1, none⟩) := hv 9 111 (by decide) rfl
              have r10 : vs 10 = .slice wp (List.length KK) wc := hv 10 112 (by decide) rfl
              have r11 : vs 11 = .bool true := hv 11 113 (by decide) rfl
              have r12 : vs 12 = .bool false := hv 12 114 (by decide) rfl
              have r13 : vs 13 = .bool false := hv 13 115 (by decide) rfl
              have r14 : vs 14 = .slice (some ⟨gl, 0, none⟩) m cl := hv 14 116 (by decide) rfl
              have r15 : vs 15 = .int .i64 j := hv 15 117 (by decide) rfl
              have r16 : vs 16 = .pointer (some ⟨gl, j * 2, none⟩) := hv 16 118 (by decide) rfl
              have r17 : vs 17 = .pointer (some ⟨gl, j * 2, none⟩) := hv 17 119 (by decide) rfl
              have r18 : vs 18 = .func (.func 67) #[] #[.pointer (some ⟨bk, 0, none⟩)] := hv 18 120 (by decide) rfl
              have r19 := hv 19 121 (by decide) rfl
              have r20 : vs 20 = .slice (some ⟨gl, 0, none⟩) m cl := hv 20 122 (by decide) rfl
              have r21 : vs 21 = .int .i64 j := hv 21 123 (by decide) rfl
              have r22 : vs 22 = .pointer (some ⟨gl, j * 2, none⟩) := hv 22 124 (by decide) rfl
              have r23 : vs 23 = .pointer (some ⟨gl, j * 2 + 1, none⟩) := hv 23 125 (by decide) rfl
              have r24 : vs 24 = .slice wp (List.length KK) wc := hv 24 126 (by decide) rfl
              have r25 : vs 25 = .bool true := hv 25 127 (by decide) rfl
              have r26 : vs 26 = .bool false := hv 26 128 (by decide) rfl
              have r27 : vs 27 = .bool false := hv 27 129 (by decide) rfl
              simp only [lay, List.foldl_cons, List.foldl_nil, r0, r1, r2, r3, r4, r6, r7, r8, r9, r10, r11, r12, r13, r14, r15, r16, r17, r18, r20, r21, r22, r23, r24, r25, r26, r27]
              simp only [List.setIfInBounds_toArray, List.set_cons_zero, List.set_cons_succ]
              clear hv r0 r1 r2 r3 r4 r6 r7 r8 r9 r10 r11 r12 r13 r14 r15 r16 r17 r18 r20 r21 r22 r23 r24 r25 r26 r27
              generalize vs 5 = x5 at *
              generalize vs 19 = x19 at *
              have HG := Lib.hid f1
              clear f1
              go_wp2_with fail
              refine ⟨⟨j + 1, by go_num, by omega, HFK.out.trans HG.out (by simp)⟩, by simp [intOf]; omega⟩
          · obtain rfl : j = m := by omega
            have hTP := HL.out.2.2.1.grow HFK.out
            have hbt := HFK.out.blk HL.out.2.2.2.1 (by simp)
            have hbm := HFK.out.blk HL.out.2.2.2.2 (by simp)
            have a0 := hbt.at 0 (v := .pointer (some ⟨b0, 0, none⟩)) rfl
            have c0' := hbm.at 0 (v := .pointer (some ⟨c0, 0, none⟩)) rfl
            have ht := tp_done hTP ⟨4, false, 0, 0, false⟩ ⟨by decide, by decide⟩
            simp only [Stp.val'] at ht
            have HT1 := Lib.hid ht
            have HZ := Lib.hid (And.intro hTP (And.intro hbt hbm))
            clear ht hTP hbt hbm
            go_wp2_with fail
            (with_reducible refine HT1.out.mono ?_)
            rintro e W2 ⟨rfl, htp, hk⟩
            clear a0 c0'
            have hbt2 := hk _ _ _ (by decide) HZ.out.2.1
            have hbm2 := hk _ _ _ (by decide) HZ.out.2.2
            have a1 := hbt2.at 1 (v := .pointer (some ⟨b1, 0, none⟩)) rfl
            have c1' := hbm2.at 1 (v := .pointer (some ⟨c1, 0, none⟩)) rfl
            have ht := tp_done htp.swap ⟨4, false, 0, 0, false⟩ ⟨by decide, by decide⟩
            simp only [Stp.val'] at ht
            have HT2 := Lib.hid ht
            clear ht htp hk hbt2 hbm2
            go_wp2_with fail
            (with_reducible refine HT2.out.mono ?_)
            rintro e W3 ⟨rfl, htp, hk⟩
            have HF3 := Lib.hid htp.fr
            clear htp hk a1 c1'
            go_wp2_with fail
            (with_reducible refine (none_any W3 (.pointer none) (nil_none W3)).mono ?_)
            rintro e W4 ⟨rfl, f4⟩
            have HF4 := Lib.hid (HF3.out.trans f4 (by simp))
            clear f4
            go_wp2_with fail
            have f5 : Fr [] W4 (W4.alloc (.cells #[.int .i64 0, .slice none 0 0] 68)) := (Fr.refl _ _).alloc _
            (with_reducible refine (none_any _ (.pointer (some ⟨W4.heap.size, 0, none⟩)) (zero_none W4)).mono ?_)
            rintro e W6 ⟨rfl, f6⟩
            have HF6 := Lib.hid ((HF4.out.trans f5 (by simp)).trans f6 (by simp))
            clear f5 f6
            go_wp2_with fail
            (with_reducible refine (lives_any W6 (deB_fr HT.out HF6.out)).mono ?_)
            rintro e W7 ⟨rfl, f7⟩
            have HF7 := Lib.hid (HF6.out.trans f7 (by simp))
            clear f7
            go_wp2_with fail
            refine bodyPost_ret (v := .bool true) (by simp [results, Tryd.results4, go_sem]) rfl ⟨rfl, HF7.out⟩
  · have hn1 : r1 < 0 ∨ 65536 < r1 := by omega
    have hd : decide (0 ≤ r1 ∧ r1 ≤ 65536) = false := decide_eq_false h1
    clear h1
    go_wp2_with fail
    (with_reducible refine (newV_no _ r1 hn1).mono ?_)
    rintro e w2 ⟨rfl, f2⟩
    have k2 := (f2.blk HC.out.2.1 (by simp)).at 1 (v := .int .i64 r1) rfl
    have HF2 := Lib.hid (HC.out.2.2.2.2.1.trans f2 (by simp))
    have HD := Lib.hid hd
    clear k0 f2 hn1 hd
    go_wp2_with fail
    (with_reducible refine (fits_any w2 r1).mono ?_)
    rintro e w3 ⟨rfl, rfl⟩
    rw [HD.out]
    go_wp2_with fail
    (with_reducible refine (lives_any w2 (deB_fr HT.out HF2.out)).mono ?_)
    rintro e w3 ⟨rfl, f3⟩
    go_wp2
    all_goals (refine bodyPost_ret (v := .bool true) (by simp [results, Tryd.results4, go_sem]) rfl ⟨rfl, HF2.out.trans f3 (by simp)⟩)
end Go.Proofs.YtgoolkgjcmdilaaDoor
