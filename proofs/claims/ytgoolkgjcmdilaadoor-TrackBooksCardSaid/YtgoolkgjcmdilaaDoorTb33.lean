/-
  Tb, part 33 of 36: the texts ChgB ChgC.
-/
import Derived.Test.YtgoolkgjcmdilaaDoorTb32
section
namespace Go.Proofs.YtgoolkgjcmdilaaDoor
open Go.RowKit Flo
set_option linter.unusedVariables false
set_option linter.unusedSimpArgs false
attribute [local go_sem] Oper.semAt_some
set_option maxRecDepth 100000 in
set_option maxHeartbeats 2000000 in
theorem chg_enter (w : World) (M N : List Nat) (k kr rO rN : Nat) (F : List Int) (V : List VO) (ob fe nu ti px py a0 a1 a2 a3 a4 : Int) (sp : Nat) (up : Option Addr) (un uc : Nat) (h : St w M N k kr rO rN F V) (hob : U32 ob) (hfe : U32 fe) :
    Calls Tryd.prog 54 #[.pointer (some ⟨k, 0, none⟩), .pointer (some ⟨kr, 0, none⟩), .agg #[.int .i64 6, .int .u32 ob, .int .u32 fe, .int .u32 nu, .int .u32 ti, .int .i32 px, .int .i32 py, .int .u32 a0, .int .u32 a1, .int .u32 a2, .int .i32 a3, .int .i32 a4, .float .f64 sp, .slice up un uc]] w (ChPost w M N k kr rO rN) := by
  obtain ⟨w1, hw1⟩ : ∃ w1, w.alloc (.cells #[.int .i64 6, .int .u32 ob, .int .u32 fe, .int .u32 nu, .int .u32 ti, .int .i32 px, .int .i32 py, .int .u32 a0, .int .u32 a1, .int .u32 a2, .int .i32 a3, .int .i32 a4, .float .f64 sp, .slice up un uc] 121) = w1 := ⟨_, rfl⟩
  have F1 : Fr [] w w1 := by rw [← hw1]; exact (Fr.refl _ _).alloc _
  have hb : Blk w1 w.heap.size #[.int .i64 6, .int .u32 ob, .int .u32 fe, .int .u32 nu, .int .u32 ti, .int .i32 px, .int .i32 py, .int .u32 a0, .int .u32 a1, .int .u32 a2, .int .i32 a3, .int .i32 a4, .float .f64 sp, .slice up un uc] 121 := by rw [← hw1]; exact Blk.new w _ _
  have hlow : ∀ s ∈ M, s < w.heap.size := h.rb.mem.2
  have d0 := hb.at 0 (v := .int .i64 6) rfl
  have d1 := hb.at 1 (v := .int .u32 ob) rfl
  have d2 := hb.at 2 (v := .int .u32 fe) rfl
  rw [← hw1] at d0 d1 d2
  obtain ⟨ea, eb, V2, hA, hB⟩ := both_turn k kr rO rN F V ob fe true hob hfe h.kb.lens.2.2.2.2
  have HA := Lib.hid (show Calls Tryd.prog 95 #[.pointer (some ⟨k, 0, none⟩), .int .u32 ob, .int .u32 fe] w1 (KPost w1 N k rO rN F V2 (.tuple #[.bool ea, .int .i64 eb])) from hA w1 M N (h.grow F1))
  have HB := Lib.hid hB
  clear hA hB
  have HS := Lib.hid (And.intro (h.grow F1) F1)
  have HQ := Lib.hid (And.intro hb hw1)
  have HM := Lib.hid (And.intro hlow (And.intro h.sub h.rb.mem.1))
  clear h F1 hb hlow hw1
  go_enter Tryd.func54, Tryd.ntmps54
  go_wp2_with fail
  obtain ⟨hb, hw1⟩ := HQ.out
  rw [hw1]
  obtain ⟨b5, hb5⟩ : ∃ b5, b5 = w.heap.size := ⟨_, rfl⟩
  have HLB := Lib.hid (show (∀ s ∈ N, s < b5) ∧ kr < b5 from ⟨fun s hs => by rw [hb5]; exact HM.out.1 s (HM.out.2.1 s hs), by rw [hb5]; exact HM.out.1 kr HM.out.2.2⟩)
  rw [← hb5] at hb ⊢
  clear hb5 hw1 HQ
  clear d0 d1 d2
  (with_reducible refine (HA.out).mono ?_)
  rintro e w2 ⟨rfl, hk, f2⟩
  have hb2 := f2.blk hb (fun hm => absurd (HLB.out.1 _ hm) (by omega))
  have hmd := HS.out.1.prog f2 hk
  have HP := Lib.hid (And.intro f2 (And.intro hb2 hmd))
  have d0 := hb2.at 0 (v := .int .i64 6) rfl
  have d1 := hb2.at 1 (v := .int .u32 ob) rfl
  have d2 := hb2.at 2 (v := .int .u32 fe) rfl
  clear hb hb2 f2 hk hmd HA
  go_wp2_with fail
  (with_reducible refine (HB.out w2 _ HP.out.2.2.rb).mono ?_)
  rintro e w3 ⟨rfl, hr, f3⟩
  have HR := Lib.hid (And.intro hr f3)
  clear hr f3 d0 d1 d2
  go_wp2_with fail
  exact bodyPost_ret (v := .bool true) (by simp [results, Tryd.results54, go_sem]) rfl (ChPost.mk HS.out.1 HS.out.2 HP.out.1 HR.out.2 (HP.out.2.2.ref HR.out.2 HR.out.1))
set_option maxRecDepth 100000 in
set_option maxHeartbeats 2000000 in
theorem chg_leave (w : World) (M N : List Nat) (k kr rO rN : Nat) (F : List Int) (V : List VO) (ob fe nu ti px py a0 a1 a2 a3 a4 : Int) (sp : Nat) (up : Option Addr) (un uc : Nat) (h : St w M N k kr rO rN F V) (hob : U32 ob) (hfe : U32 fe) :
    Calls Tryd.prog 54 #[.pointer (some ⟨k, 0, none⟩), .pointer (some ⟨kr, 0, none⟩), .agg #[.int .i64 7, .int .u32 ob, .int .u32 fe, .int .u32 nu, .int .u32 ti, .int .i32 px, .int .i32 py, .int .u32 a0, .int .u32 a1, .int .u32 a2, .int .i32 a3, .int .i32 a4, .float .f64 sp, .slice up un uc]] w (ChPost w M N k kr rO rN) := by
  obtain ⟨w1, hw1⟩ : ∃ w1, w.alloc (.cells #[.int .i64 7, .int .u32 ob, .int .u32 fe, .int .u32 nu, .int .u32 ti, .int .i32 px, .int .i32 py, .int .u32 a0, .int .u32 a1, .int .u32 a2, .int .i32 a3, .int .i32 a4, .float .f64 sp, .slice up un uc] 121) = w1 := ⟨_, rfl⟩
  have F1 : Fr [] w w1 := by rw [← hw1]; exact (Fr.refl _ _).alloc _
  have hb : Blk w1 w.heap.size #[.int .i64 7, .int .u32 ob, .int .u32 fe, .int .u32 nu, .int .u32 ti, .int .i32 px, .int .i32 py, .int .u32 a0, .int .u32 a1, .int .u32 a2, .int .i32 a3, .int .i32 a4, .float .f64 sp, .slice up un uc] 121 := by rw [← hw1]; exact Blk.new w _ _
  have hlow : ∀ s ∈ M, s < w.heap.size := h.rb.mem.2
  have d0 := hb.at 0 (v := .int .i64 7) rfl
  have d1 := hb.at 1 (v := .int .u32 ob) rfl
  have d2 := hb.at 2 (v := .int .u32 fe) rfl
  rw [← hw1] at d0 d1 d2
  obtain ⟨ea, eb, V2, hA, hB⟩ := both_turn k kr rO rN F V ob fe false hob hfe h.kb.lens.2.2.2.2
  have HA := Lib.hid (show Calls Tryd.prog 124 #[.pointer (some ⟨k, 0, none⟩), .int .u32 ob, .int .u32 fe] w1 (KPost w1 N k rO rN F V2 (.tuple #[.bool ea, .int .i64 eb])) from hA w1 M N (h.grow F1))
  have HB := Lib.hid hB
  clear hA hB
  have HS := Lib.hid (And.intro (h.grow F1) F1)
  have HQ := Lib.hid (And.intro hb hw1)
  have HM := Lib.hid (And.intro hlow (And.intro h.sub h.rb.mem.1))
  clear h F1 hb hlow hw1
  go_enter Tryd.func54, Tryd.ntmps54
  go_wp2_with fail
  obtain ⟨hb, hw1⟩ := HQ.out
  rw [hw1]
  obtain ⟨b5, hb5⟩ : ∃ b5, b5 = w.heap.size := ⟨_, rfl⟩
  have HLB := Lib.hid (show (∀ s ∈ N, s < b5) ∧ kr < b5 from ⟨fun s hs => by rw [hb5]; exact HM.out.1 s (HM.out.2.1 s hs), by rw [hb5]; exact HM.out.1 kr HM.out.2.2⟩)
  rw [← hb5] at hb ⊢
  clear hb5 hw1 HQ
  clear d0 d1 d2
  (with_reducible refine (HA.out).mono ?_)
  rintro e w2 ⟨rfl, hk, f2⟩
  have hb2 := f2.blk hb (fun hm => absurd (HLB.out.1 _ hm) (by omega))
  have hmd := HS.out.1.prog f2 hk
  have HP := Lib.hid (And.intro f2 (And.intro hb2 hmd))
  have d0 := hb2.at 0 (v := .int .i64 7) rfl
  have d1 := hb2.at 1 (v := .int .u32 ob) rfl
  have d2 := hb2.at 2 (v := .int .u32 fe) rfl
  clear hb hb2 f2 hk hmd HA
  go_wp2_with fail
  (with_reducible refine (HB.out w2 _ HP.out.2.2.rb).mono ?_)
  rintro e w3 ⟨rfl, hr, f3⟩
  have HR := Lib.hid (And.intro hr f3)
  clear hr f3 d0 d1 d2
  go_wp2_with fail
  exact bodyPost_ret (v := .bool true) (by simp [results, Tryd.results54, go_sem]) rfl (ChPost.mk HS.out.1 HS.out.2 HP.out.1 HR.out.2 (HP.out.2.2.ref HR.out.2 HR.out.1))
theorem St.progR {w w' : World} {M N : List Nat} {k kr rO rN : Nat} {F : List Int} {V : List VO} (h : St w M N k kr rO rN F V) (f : Fr N w w') : RBook w' (ext M w.heap.size w'.heap.size) kr rO rN F V := by
  obtain ⟨hm, hl⟩ := h.rb.mem
  exact h.rb.step f (fun x hx => .inl (h.sub x hx)) h.out (fun x hx => (mem_ext.1 hx).imp id (fun q => q.1)) (ext_low hl f.size) (mem_ext.2 (.inl hm))
def MvA (k kr rO rN : Nat) (F : List Int) (V : List VO) (ob nu ti px py : Int) (ax ay : Int) (ab : Bool) (ae : Int) (R : Nat → Prop) (V2 : Nat → List VO) : Prop :=
  (∀ W M N, St W M N k kr rO rN F V → Calls Tryd.prog 93 #[.pointer (some ⟨k, 0, none⟩), .int .u32 ob, .int .u32 nu, .int .u32 ti, .agg #[.int .i32 px, .int .i32 py]] W fun e w' => e = .returned (.tuple #[.agg #[.int .i32 ax, .int .i32 ay], .bool ab, .int .i64 ae]) ∧ (∀ s, R s → KBF w' (ext N W.heap.size w'.heap.size) k rO rN F (V2 s)) ∧ Fr N W w') ∧
  (∀ W M, RBook W M kr rO rN F V → Calls Tryd.prog 116 #[.pointer (some ⟨kr, 0, none⟩), .int .u32 ob, .int .u32 nu, .int .u32 ti, .agg #[.int .i32 px, .int .i32 py]] W fun e w' => e = .returned (.tuple #[.agg #[.int .i32 ax, .int .i32 ay], .bool ab, .int .i64 ae]) ∧ (∃ s, R s ∧ RBook w' M kr rO rN F (V2 s)) ∧ Fr [kr] W w')
theorem both_move (k kr rO rN : Nat) (F : List Int) (V : List VO) (ob nu ti px py : Int) (hi : U32 ob) (ht : U32 ti) (hx : I32 px) (hy : I32 py) (h64 : rO ≤ 64) (hV : ∀ o ∈ V, U32 o.t ∧ I32 o.px ∧ I32 o.py) : ∃ ax ay ab ae R V2, MvA k kr rO rN F V ob nu ti px py ax ay ab ae R V2 := by
  rcases posV_case V ob with hz | ⟨r, o, hz, ho⟩
  · by_cases hr : V.length < rO
    · refine ⟨0, 0, false, 0, fun _ => True, fun _ => putV V (newO ob nu ti px py), fun W M N h => (kbmove_new ob nu ti px py h.kb hi ht hx hy hz hr).mono ?_, fun W M h => (rmove_new W M kr rO rN F V ob nu ti px py h hz (by omega) (by omega)).mono ?_⟩
      · rintro e w' ⟨h1, h2, h3⟩
        exact ⟨h1, fun _ _ => h2, h3⟩
      · rintro e w' ⟨h1, h2, h3⟩
        exact ⟨h1, ⟨0, trivial, h2⟩, h3⟩
    · refine ⟨0, 0, false, 5, fun _ => True, fun _ => V, fun W M N h => (kbmove_full ob nu ti px py h.kb hi hz hr).mono ?_, fun W M h => (rmove_full W M kr rO rN F V ob nu ti px py h hz (by omega)).mono ?_⟩
      · rintro e w' hp
        obtain ⟨h1, h2, h3⟩ := kpost_same h.kb hp
        exact ⟨h1, fun _ _ => h2, h3⟩
      · rintro e w' hp
        obtain ⟨h1, h2, h3⟩ := rbpost_same h hp
        exact ⟨h1, ⟨0, trivial, h2⟩, h3⟩
  · obtain ⟨q1, q2, q3⟩ := hV o (List.mem_of_getElem? ho)
    refine ⟨o.px, o.py, true, 0, SpR o.px o.py px py o.t ti o.sp, fun s => V.set r { o with num := nu, t := ti, px := px, py := py, sp := s }, fun W M N h => (kbmove_old ob nu ti px py r o h.kb hi ht hx hy hz ho).mono ?_, fun W M h => (rmove_old W M kr rO rN F V ob nu ti px py r o h hz ho q2 q3 q1.1 hx hy ht.2).mono ?_⟩
    · rintro e w' ⟨h1, h2, h3⟩
      exact ⟨h1, fun s hs => (h2 s hs).step (Fr.refl [] w') (by simp) (fun s hs => mem_ext.2 (.inl hs)) (ext_low (fun s hs => h.rb.mem.2 s (h.sub s hs)) h3.size), h3⟩
    · rintro e w' ⟨s, h1, h2, h3, h4⟩
      exact ⟨h1, ⟨s, h2, h3⟩, h4⟩
theorem KBF.rng {w : World} {N : List Nat} {k rO rN : Nat} {F : List Int} {V : List VO} (h : KBF w N k rO rN F V) : ∀ o ∈ V, U32 o.t ∧ I32 o.px ∧ I32 o.py := fun o ho => by
  obtain ⟨Fs, rfl, bO, bN, bP, v, u, vP, BP, Cs, h, hV⟩ := h
  obtain ⟨c, hc, hk⟩ := hV.right ho
  exact ⟨hk.ut, hk.upx, hk.upy⟩
set_option maxRecDepth 100000 in
set_option maxHeartbeats 2000000 in
theorem chg_move (w : World) (M N : List Nat) (k kr rO rN : Nat) (F : List Int) (V : List VO) (ob fe nu ti px py a0 a1 a2 a3 a4 : Int) (sp : Nat) (up : Option Addr) (un uc : Nat) (h : St w M N k kr rO rN F V) (hob : U32 ob) (hfe : U32 fe) (hti : U32 ti) (hpx : I32 px) (hpy : I32 py) :
    Calls Tryd.prog 54 #[.pointer (some ⟨k, 0, none⟩), .pointer (some ⟨kr, 0, none⟩), .agg #[.int .i64 1, .int .u32 ob, .int .u32 fe, .int .u32 nu, .int .u32 ti, .int .i32 px, .int .i32 py, .int .u32 a0, .int .u32 a1, .int .u32 a2, .int .i32 a3, .int .i32 a4, .float .f64 sp, .slice up un uc]] w (ChPost w M N k kr rO rN) := by
  obtain ⟨w1, hw1⟩ : ∃ w1, w.alloc (.cells #[.int .i64 1, .int .u32 ob, .int .u32 fe, .int .u32 nu, .int .u32 ti, .int .i32 px, .int .i32 py, .int .u32 a0, .int .u32 a1, .int .u32 a2, .int .i32 a3, .int .i32 a4, .float .f64 sp, .slice up un uc] 121) = w1 := ⟨_, rfl⟩
  have F1 : Fr [] w w1 := by rw [← hw1]; exact (Fr.refl _ _).alloc _
  have hb : Blk w1 w.heap.size #[.int .i64 1, .int .u32 ob, .int .u32 fe, .int .u32 nu, .int .u32 ti, .int .i32 px, .int .i32 py, .int .u32 a0, .int .u32 a1, .int .u32 a2, .int .i32 a3, .int .i32 a4, .float .f64 sp, .slice up un uc] 121 := by rw [← hw1]; exact Blk.new w _ _
  have hlow : ∀ s ∈ M, s < w.heap.size := h.rb.mem.2
  have d0 := hb.at 0 (v := .int .i64 1) rfl
  have d1 := hb.at 1 (v := .int .u32 ob) rfl
  have d3 := hb.at 3 (v := .int .u32 nu) rfl
  have d4 := hb.at 4 (v := .int .u32 ti) rfl
  have d5 := hb.at 5 (v := .int .i32 px) rfl
  have d6 := hb.at 6 (v := .int .i32 py) rfl
  rw [← hw1] at d0 d1 d3 d4 d5 d6
  obtain ⟨ax, ay, ab, ae, R, V2, hA, hB⟩ := both_move k kr rO rN F V ob nu ti px py hob hti hpx hpy h.kb.lens.2.1 h.kb.rng
  have HA := Lib.hid (hA w1 M N (h.grow F1))
  have HB := Lib.hid hB
  clear hA hB
  have HS := Lib.hid (And.intro (h.grow F1) F1)
  have HQ := Lib.hid (And.intro hb hw1)
  have HM := Lib.hid (And.intro hlow (And.intro h.sub h.rb.mem.1))
  clear h F1 hb hlow hw1
  go_enter Tryd.func54, Tryd.ntmps54
  go_wp2_with fail
  obtain ⟨hb, hw1⟩ := HQ.out
  rw [hw1]
  obtain ⟨b5, hb5⟩ : ∃ b5, b5 = w.heap.size := ⟨_, rfl⟩
  have HLB := Lib.hid (show (∀ s ∈ N, s < b5) ∧ kr < b5 from ⟨fun s hs => by rw [hb5]; exact HM.out.1 s (HM.out.2.1 s hs), by rw [hb5]; exact HM.out.1 kr HM.out.2.2⟩)
  rw [← hb5] at hb ⊢
  clear hb5 hw1 HQ
  clear d0 d1 d3 d4 d5 d6
  (with_reducible refine (HA.out).mono ?_)
  rintro e w2 ⟨rfl, hk, f2⟩
  have hb2 := (f2.blk hb (fun hm => absurd (HLB.out.1 _ hm) (by omega))).alloc (.cells #[.int .i32 ax, .int .i32 ay] 98)
  have hp := Blk.new w2 #[.int .i32 ax, .int .i32 ay] 98
  have F3 : Fr [] w2 (w2.alloc (.cells #[.int .i32 ax, .int .i32 ay] 98)) := (Fr.refl _ _).alloc _
  have HP := Lib.hid (And.intro (f2.alloc (.cells #[.int .i32 ax, .int .i32 ay] 98)) (And.intro hb2 (And.intro hp (show ∀ s, R s → KBF (w2.alloc (.cells #[.int .i32 ax, .int .i32 ay] 98)) (ext N w1.heap.size (w2.alloc (.cells #[.int .i32 ax, .int .i32 ay] 98)).heap.size) k rO rN F (V2 s) from fun s hs => (hk s hs).step F3 (by simp) (fun x hx => (mem_ext.1 hx).elim (fun q => mem_ext.2 (.inl q)) (fun q => mem_ext.2 (.inr ⟨q.1, Nat.lt_of_lt_of_le q.2 F3.size⟩))) (ext_low (fun s hs => HS.out.1.rb.mem.2 s (HS.out.1.sub s hs)) (Nat.le_trans f2.size F3.size))))))
  have d0 := hb2.at 0 (v := .int .i64 1) rfl
  have d1 := hb2.at 1 (v := .int .u32 ob) rfl
  have d3 := hb2.at 3 (v := .int .u32 nu) rfl
  have d4 := hb2.at 4 (v := .int .u32 ti) rfl
  have d5 := hb2.at 5 (v := .int .i32 px) rfl
  have d6 := hb2.at 6 (v := .int .i32 py) rfl
  have hz2 : w1.heap.size ≤ w2.heap.size := f2.size
  have hz1 : w.heap.size ≤ w1.heap.size := HS.out.2.size
  clear hb hb2 f2 hk HA hp F3
  go_wp2_with fail
  obtain ⟨a7, ha7⟩ : ∃ a7, a7 = w2.heap.size := ⟨_, rfl⟩
  obtain ⟨w3, hw3⟩ : ∃ w3, w3 = w2.alloc (.cells #[.int .i32 ax, .int .i32 ay] 98) := ⟨_, rfl⟩
  rw [← hw3, ← ha7] at HP
  rw [← hw3, ← ha7]
  have hge7 : w.heap.size ≤ a7 := by omega
  clear ha7 hw3
  (with_reducible refine (HB.out w3 _ (HS.out.1.progR HP.out.1)).mono ?_)
  rintro e w4 ⟨rfl, ⟨s, hs, hr⟩, f4⟩
  have F5 : Fr [] w4 (w4.alloc (.cells #[.int .i32 ax, .int .i32 ay] 98)) := (Fr.refl _ _).alloc _
  have hp7 : Blk (w4.alloc (.cells #[.int .i32 ax, .int .i32 ay] 98)) a7 #[.int .i32 ax, .int .i32 ay] 98 := (f4.blk HP.out.2.2.1 (by simp; have := HM.out.1 kr HM.out.2.2; omega)).alloc _
  have hp8 := Blk.new w4 #[.int .i32 ax, .int .i32 ay] 98
  have e0 := hp7.at 0 (v := .int .i32 ax) rfl
  have e1 := hp7.at 1 (v := .int .i32 ay) rfl
  have e2 := hp8.at 0 (v := .int .i32 ax) rfl
  have e3 := hp8.at 1 (v := .int .i32 ay) rfl
  have hmd := (HS.out.1.prog HP.out.1 (HP.out.2.2.2 s hs)).ref f4 hr
  have HR := Lib.hid (And.intro (hmd.grow F5) (f4.trans F5 (by simp)))
  clear hr f4 F5 hmd hp7 hp8
  go_wp2_with fail
  exact bodyPost_ret (v := .bool true) (by simp [results, Tryd.results54, go_sem]) rfl (ChPost.mk HS.out.1 HS.out.2 HP.out.1 HR.out.2 HR.out.1)
end Go.Proofs.YtgoolkgjcmdilaaDoor
end
section
namespace Go.Proofs.YtgoolkgjcmdilaaDoor
open Go.RowKit Flo
set_option linter.unusedVariables false
set_option linter.unusedSimpArgs false
attribute [local go_sem] Oper.semAt_some
/-- What Lay answers, and the objects then. -/
noncomputable def layE (rO : Nat) (F : List Int) (V : List VO) (o : VO) : Int × List VO := by
  classical
  exact if ¬ UpI o.ids then (2, V) else if 0 ≤ posV V o.id then (2, V) else if (rO : Int) ≤ (V.length : Int) then (5, V) else if ¬ (∀ f ∈ o.ids, f ∈ F) then (181, V) else (0, putV V o)
section
variable {w w' : World} {M N : List Nat} {k kr rO rN : Nat} {F : List Int} {V : List VO} {o : VO} {e : Ending}
theorem klay_e (h : KBF w N k rO rN F V) (hp : KLay2Post w N k rO rN F V o e w') : KPost w N k rO rN F (layE rO F V o).2 (.int .i64 (layE rO F V o).1) e w' := by
  rcases hp with ⟨a, h1, f⟩ | ⟨a, b, h1, f⟩ | ⟨a, b, c, h1, f⟩ | ⟨a, b, c, d, h1, f⟩ | ⟨a, b, c, d, h1, h2, f⟩
  · have he : layE rO F V o = (2, V) := by unfold layE; rw [if_pos a]
    rw [he]; exact kpost_same h ⟨h1, f⟩
  · have he : layE rO F V o = (2, V) := by unfold layE; rw [if_neg (fun q => q a), if_pos b]
    rw [he]; exact kpost_same h ⟨h1, f⟩
  · have he : layE rO F V o = (5, V) := by unfold layE; rw [if_neg (fun q => q a), if_neg (by omega), if_pos c]
    rw [he]; exact kpost_same h ⟨h1, f⟩
  · have he : layE rO F V o = (181, V) := by unfold layE; rw [if_neg (fun q => q a), if_neg (by omega), if_neg c, if_pos d]
    rw [he]; exact kpost_same h ⟨h1, f⟩
  · have he : layE rO F V o = (0, putV V o) := by unfold layE; rw [if_neg (fun q => q a), if_neg (by omega), if_neg c, if_neg (fun q => q d)]
    rw [he]; exact ⟨h1, h2, f⟩
theorem rlay_e (h : RBook w M kr rO rN F V) (hp : LayPost w M kr rO rN F V o e w') : RBPost w M kr rO rN F (layE rO F V o).2 (.int .i64 (layE rO F V o).1) e w' := by
  rcases hp with ⟨a, h1, f⟩ | ⟨a, b, h1, f⟩ | ⟨a, b, c, h1, f⟩ | ⟨a, b, c, d, h1, f⟩ | ⟨a, b, c, d, h1, h2, f⟩
  · have he : layE rO F V o = (2, V) := by unfold layE; rw [if_pos a]
    rw [he]; exact rbpost_same h ⟨h1, f⟩
  · have he : layE rO F V o = (2, V) := by unfold layE; rw [if_neg (fun q => q a), if_pos b]
    rw [he]; exact rbpost_same h ⟨h1, f⟩
  · have he : layE rO F V o = (5, V) := by unfold layE; rw [if_neg (fun q => q a), if_neg (by omega), if_pos c]
    rw [he]; exact rbpost_same h ⟨h1, f⟩
  · have he : layE rO F V o = (181, V) := by unfold layE; rw [if_neg (fun q => q a), if_neg (by omega), if_neg c, if_pos d]
    rw [he]; exact rbpost_same h ⟨h1, f⟩
  · have he : layE rO F V o = (0, putV V o) := by unfold layE; rw [if_neg (fun q => q a), if_neg (by omega), if_neg c, if_neg (fun q => q d)]
    rw [he]; exact ⟨h1, h2, f⟩
theorem St.prog2 {V' : List VO} {N' : List Nat} (h : St w M N k kr rO rN F V) (f : Fr N w w') (hk : KBF w' N' k rO rN F V') (hN : ∀ s ∈ N', s ∈ ext M w.heap.size w'.heap.size) (hkr : kr ∉ N') : Md w' (ext M w.heap.size w'.heap.size) N' k kr rO rN F V F V' := by
  have hs : ∀ x ∈ N, x ∈ M ∨ w.heap.size ≤ x := fun x hx => .inl (h.sub x hx)
  have hM : ∀ x ∈ ext M w.heap.size w'.heap.size, x ∈ M ∨ w.heap.size ≤ x := fun x hx => (mem_ext.1 hx).imp id (fun q => q.1)
  exact ⟨hk, h.progR f, hN, hkr, h.deb.step f hs hM⟩
theorem Md.spoil {F' : List Int} {V' : List VO} {T : List Nat} (h : Md w M N k kr rO rN F V F' V') (f : Fr T w w') (hT : ∀ t ∈ T, t ∈ M ∧ t ∉ N ∧ t ≠ kr) : Md w' M N k kr rO rN F V F' V' := by
  obtain ⟨hm, hl⟩ := h.rb.mem
  have hlw : ∀ m ∈ M, m < w'.heap.size := fun m q => Nat.lt_of_lt_of_le (hl m q) f.size
  exact ⟨h.kb.step f (fun s hs => (hT s hs).2.1) (fun s hs => hs) (fun s hs => hlw s (h.sub s hs)), h.rb.step f (fun x hx => .inl (hT x hx).1) (fun q => (hT kr q).2.2 rfl) (fun x hx => .inl hx) hlw hm, h.sub, h.out, h.deb.step f (fun x hx => .inl (hT x hx).1) (fun x hx => .inl hx)⟩
end
set_option maxRecDepth 100000 in
set_option maxHeartbeats 2000000 in
theorem chg_lay (w : World) (M N : List Nat) (k kr rO rN : Nat) (F : List Int) (V : List VO) (ob fe nu ti px py a0 a1 a2 a3 a4 : Int) (sp : Nat) (up : Option Addr) (un uc : Nat) (h : St w M N k kr rO rN F V) (hob : U32 ob) (hfe : U32 fe) (I : List Int) (hIn : Firm M w (fun W => IdS W (.slice up un uc) I)) (hun : un = I.length) (hIu : ∀ f ∈ I, U32 f) (hI45 : un ≤ 35184372088832) (h0 : U32 a0) (h2 : U32 a2) (h3 : I32 a3) (h4 : I32 a4) :
    Calls Tryd.prog 54 #[.pointer (some ⟨k, 0, none⟩), .pointer (some ⟨kr, 0, none⟩), .agg #[.int .i64 2, .int .u32 ob, .int .u32 fe, .int .u32 nu, .int .u32 ti, .int .i32 px, .int .i32 py, .int .u32 a0, .int .u32 a1, .int .u32 a2, .int .i32 a3, .int .i32 a4, .float .f64 sp, .slice up un uc]] w (ChPost w M N k kr rO rN) := by
  obtain ⟨w1, hw1⟩ : ∃ w1, w.alloc (.cells #[.int .i64 2, .int .u32 ob, .int .u32 fe, .int .u32 nu, .int .u32 ti, .int .i32 px, .int .i32 py, .int .u32 a0, .int .u32 a1, .int .u32 a2, .int .i32 a3, .int .i32 a4, .float .f64 sp, .slice up un uc] 121) = w1 := ⟨_, rfl⟩
  have F1 : Fr [] w w1 := by rw [← hw1]; exact (Fr.refl _ _).alloc _
  have hb : Blk w1 w.heap.size #[.int .i64 2, .int .u32 ob, .int .u32 fe, .int .u32 nu, .int .u32 ti, .int .i32 px, .int .i32 py, .int .u32 a0, .int .u32 a1, .int .u32 a2, .int .i32 a3, .int .i32 a4, .float .f64 sp, .slice up un uc] 121 := by rw [← hw1]; exact Blk.new w _ _
  have hlow : ∀ s ∈ M, s < w.heap.size := h.rb.mem.2
  have d0 := hb.at 0 (v := .int .i64 2) rfl
  have d7 := hb.at 7 (v := .int .u32 a0) rfl
  have d8 := hb.at 8 (v := .int .u32 a1) rfl
  have d9 := hb.at 9 (v := .int .u32 a2) rfl
  have d10 := hb.at 10 (v := .int .i32 a3) rfl
  have d11 := hb.at 11 (v := .int .i32 a4) rfl
  have d12 := hb.at 12 (v := .float .f64 sp) rfl
  have d13 := hb.at 13 (v := .slice up un uc) rfl
  rw [← hw1] at d0 d7 d8 d9 d10 d11 d12 d13
  have HIN := Lib.hid (show Firm M w1 (fun W => IdS W (.slice up un uc) I) from hIn.grow F1)
  have HU := Lib.hid (And.intro hun (And.intro hIu (And.intro h0 (And.intro h2 (And.intro h3 h4)))))
  have HS := Lib.hid (And.intro (h.grow F1) F1)
  have HQ := Lib.hid (And.intro hb hw1)
  have HM := Lib.hid (And.intro hlow (And.intro h.sub h.rb.mem.1))
  have F2 : Fr [] w1 (w1.alloc (.cells #[.int .u32 a0, .int .u32 a1, .int .u32 a2, .int .i32 a3, .int .i32 a4, .float .f64 sp, .slice up un uc] 119)) := (Fr.refl _ _).alloc _
  have hA := Blk.new w1 #[.int .u32 a0, .int .u32 a1, .int .u32 a2, .int .i32 a3, .int .i32 a4, .float .f64 sp, .slice up un uc] 119
  have HO := Lib.hid (World.ownsRow_nil (w1.alloc (.cells #[.int .u32 a0, .int .u32 a1, .int .u32 a2, .int .i32 a3, .int .i32 a4, .float .f64 sp, .slice up un uc] 119)) 0 33 1)
  have HRD := Lib.hid (show RdF (w1.alloc (.cells #[.int .u32 a0, .int .u32 a1, .int .u32 a2, .int .i32 a3, .int .i32 a4, .float .f64 sp, .slice up un uc] 119)) (.slice up un uc) un 1 (u32v I) from by
    have := HIN.out.out.grow F2
    unfold IdS at this
    rw [← hun] at this
    exact this)
  have HA := Lib.hid (And.intro F2 hA)
  have c6 := hA.at 6 (v := .slice up un uc) rfl
  have c0 := hA.at 0 (v := .int .u32 a0) rfl
  rw [← hw1] at HO HRD c6
  have HS1 := Lib.hid (fun (p1 : Option Addr) (c1 : Nat) (w3 : World) (happ : Appended (w1.alloc (.cells #[.int .u32 a0, .int .u32 a1, .int .u32 a2, .int .i32 a3, .int .i32 a4, .float .f64 sp, .slice up un uc] 119)) 33 1 (.slice none 0 0) un (u32v I) (.slice p1 un c1) w3) => show (w3.cell? ⟨w1.heap.size, 6, none⟩ = some (.slice up un uc) ∧ w3.frozen? ⟨w1.heap.size, 6, none⟩ = false) ∧
      Blk (w3.setCell ⟨w1.heap.size, 6, none⟩ (.slice p1 un c1)) w1.heap.size #[.int .u32 a0, .int .u32 a1, .int .u32 a2, .int .i32 a3, .int .i32 a4, .float .f64 sp, .slice p1 un c1] 119 ∧ Fr [] w1 (w3.setCell ⟨w1.heap.size, 6, none⟩ (.slice p1 un c1)) ∧ (w3.setCell ⟨w1.heap.size, 6, none⟩ (.slice p1 un c1)).ownsRow 0 33 1 (.slice p1 un c1) un (u32v I) ∧ ∀ g, (Value.slice p1 un c1).ownBlock = some g → w1.heap.size < g from by
    have f3 : Fr [] (w1.alloc (.cells #[.int .u32 a0, .int .u32 a1, .int .u32 a2, .int .i32 a3, .int .i32 a4, .float .f64 sp, .slice up un uc] 119)) w3 := happ.fr.mono (by simp [Value.ownBlock])
    have hb3 := f3.blk HA.out.2 (by simp)
    have hset := hb3.set 6 (.slice p1 un c1)
    simp only [List.setIfInBounds_toArray, List.set_cons_zero, List.set_cons_succ] at hset
    have hnew : ∀ g, (Value.slice p1 un c1).ownBlock = some g → w1.heap.size < g := fun g hg => by
      rcases happ.place with q | q
      · rw [hg] at q; simp [Value.ownBlock] at q
      · rw [hg] at q; cases q; simp
    exact ⟨⟨hb3.at 6 rfl, hb3.free 6⟩, hset, (HA.out.1.trans f3 (by simp)).setCell _ _ (.inr (Nat.le_refl _)), own_fr happ.own ((Fr.refl [w1.heap.size] w3).setCell ⟨w1.heap.size, 6, none⟩ (.slice p1 un c1) (.inl (by simp))) (fun g hg hm => by have := hnew g hg; simp at hm; omega), hnew⟩)
  have hz : w1.heap.size = w.heap.size + 1 := by rw [← hw1]; simp
  rw [hz] at HS1
  rw [← hw1] at HS1
  have HZ := Lib.hid hz
  clear hz
  clear h F1 hb hlow hw1 hIn hun hIu h0 h2 h3 h4 F2 hA c0 c6
  go_enter Tryd.func54, Tryd.ntmps54
  go_wp2_with (at_builtin; go_must (refine wpList_appF _ rfl _ _ 22 rfl 33 (.int .u32 0) 1 4 Tryd.underlying22 infoU rfl (by decide) (.slice none 0 0) 0 [] rfl HO.out (.slice up un uc) un (u32v I) rfl HRD.out (u32v_one _) (by unfold maxLen; omega) (by omega) ?_); intro v1 w3 happ; rw [Nat.zero_add, List.nil_append] at happ; obtain ⟨p1, c1, rfl⟩ := own_form happ.own; obtain ⟨⟨cb, cf⟩, hb4, f4, ho4, hn4⟩ := HS1.out _ _ _ happ; have y0 := hb4.at 0 (v := .int .u32 a0) rfl; have y1 := hb4.at 1 (v := .int .u32 a1) rfl; have y2 := hb4.at 2 (v := .int .u32 a2) rfl; have y3 := hb4.at 3 (v := .int .i32 a3) rfl; have y4 := hb4.at 4 (v := .int .i32 a4) rfl; have y5 := hb4.at 5 (v := .float .f64 sp) rfl; have y6 := hb4.at 6 (v := .slice p1 un c1) rfl; have HB4 := Lib.hid (And.intro hb4 (And.intro f4 (And.intro ho4 hn4))); clear hb4 f4 ho4 hn4 happ)
  obtain ⟨hb, hw1⟩ := HQ.out
  rw [hw1] at HB4
  obtain ⟨w4, hw4⟩ : ∃ w4, w4 = w3.setCell ⟨w.heap.size + 1, 6, none⟩ (.slice p1 un c1) := ⟨_, rfl⟩
  rw [← hw4] at HB4 y0 y1 y2 y3 y4 y5 y6 ⊢
  obtain ⟨a13, ha13⟩ : ∃ a13, a13 = w.heap.size + 1 := ⟨_, rfl⟩
  have hz1 : a13 ≤ w1.heap.size := by have := HZ.out; omega
  have hz2 : w1.heap.size ≤ a13 := by have := HZ.out; omega
  rw [← ha13] at HB4 y0 y1 y2 y3 y4 y5 y6 ⊢
  obtain ⟨b5, hb5⟩ : ∃ b5, b5 = w.heap.size := ⟨_, rfl⟩
  have hwb : w.heap.size ≤ b5 := by omega
  have hb13 : b5 < a13 := by omega
  have HLB := Lib.hid (show (∀ s ∈ N, s < b5) ∧ kr < b5 from ⟨fun s hs => by rw [hb5]; exact HM.out.1 s (HM.out.2.1 s hs), by rw [hb5]; exact HM.out.1 kr HM.out.2.2⟩)
  rw [← hb5] at hb ⊢
  have HBB := Lib.hid hb
  clear hb5 ha13 hw4 hw1 hb HQ cb cf HS1 HO HRD HA
  clear d0 d7 d8 d9 d10 d11 d12 d13
  obtain ⟨E, hE⟩ : ∃ E, E = layE rO F V ⟨a0, a1, a2, a3, a4, sp, I⟩ := ⟨_, rfl⟩
  have HE := Lib.hid hE
  have hI4 : IdS w4 (.slice p1 un c1) I := by
    have := RdF.of_own (by decide) HB4.out.2.2.1 (by unfold maxLen; omega)
    rw [HU.out.1] at this ⊢
    exact this
  have hkb4 := (HS.out.1.grow HB4.out.2.1).kb
  have HK := Lib.hid ((kblay w4 N k rO rN F V ⟨a0, a1, a2, a3, a4, sp, p1, un, c1⟩ ⟨a0, a1, a2, a3, a4, sp, I⟩ hkb4 ⟨rfl, rfl, rfl, rfl, rfl, rfl, hI4⟩ HU.out.2.2.1 HU.out.2.2.2.1 HU.out.2.2.2.2.1 HU.out.2.2.2.2.2 HU.out.2.1 (by dsimp only; have := HU.out.1; omega)).mono fun e w' hp => klay_e hkb4 hp)
  rw [← hE] at HK
  clear hE hI4 hkb4
  (with_reducible refine (HK.out).mono ?_)
  rintro e w5 ⟨rfl, hk, f5⟩
  obtain ⟨ea, V2⟩ := E
  dsimp only at hk ⊢
  have f15 : Fr N w1 w5 := (HB4.out.2.1.mono (by simp)).trans f5 (fun s hs => .inl hs)
  have h45 : w1.heap.size ≤ w4.heap.size := HB4.out.2.1.size
  have hmd : Md w5 (ext M w1.heap.size w5.heap.size) (ext N w4.heap.size w5.heap.size) k kr rO rN F V F V2 := HS.out.1.prog2 f15 hk (fun s hs => (mem_ext.1 hs).elim (fun q => mem_ext.2 (.inl (HS.out.1.sub s q))) (fun q => mem_ext.2 (.inr (by omega)))) (fun hs => by
    have := HLB.out.2
    rcases mem_ext.1 hs with q | q
    · exact HS.out.1.out q
    · omega)
  have hb5' := (HB4.out.2.1.blk HBB.out (by simp))
  have hb55 := f5.blk hb5' (fun hm => absurd (HLB.out.1 _ hm) (by omega))
  have ha55 := f5.blk HB4.out.1 (fun hm => absurd (HLB.out.1 _ hm) (by omega))
  have ho5 := own_fr HB4.out.2.2.1 f5 (fun g hg hm => by have := HB4.out.2.2.2 g hg; have := HLB.out.1 g hm; omega)
  have HI5 := Lib.hid (show IdS w5 (.slice p1 un c1) I ∧ IdS w5 (.slice up un uc) I from ⟨by
    have := RdF.of_own (by decide) ho5 (by unfold maxLen; omega)
    rw [HU.out.1] at this ⊢
    exact this, HIN.out w5 (f15.mono (fun s hs => .inl (HS.out.1.sub s hs)))⟩)
  have x6 := ha55.at 6 (v := .slice p1 un c1) rfl
  have z13 := hb55.at 13 (v := .slice up un uc) rfl
  have HP := Lib.hid (And.intro f15 (And.intro hmd (And.intro hb55 (And.intro ha55 ho5))))
  have h55 : w4.heap.size ≤ w5.heap.size := f5.size
  clear y0 y1 y2 y3 y4 y5 y6 hk f5 f15 hmd hb5' hb55 ha55 ho5
  go_wp2_with fail
  (with_reducible refine (sameIds_any w5 p1 up un c1 uc I HU.out.1 HI5.out.1 HI5.out.2 (by omega)).mono ?_)
  rintro e w6 ⟨rfl, f6⟩
  have ha66 := f6.blk HP.out.2.2.2.1 (by simp)
  have x6' := ha66.at 6 (v := .slice p1 un c1) rfl
  have HO6 := Lib.hid (own_fr HP.out.2.2.2.2 f6 (by simp))
  have HA6 := Lib.hid (And.intro f6 ha66)
  clear x6 z13 ha66 f6
  go_wp2_with fail
  clear x6'
  go_loopw [15] (fun i wr => ∃ jj : Nat, i = .int .i64 jj ∧ jj ≤ un ∧ Spoil w6 wr (.slice p1 un c1)) (fun i _ => un - (intOf i).toNat)
  case atStart => exact ⟨0, rfl, Nat.zero_le _, Spoil.start HO6.out⟩
  case round =>
    obtain ⟨jj, rfl, hjj, hsp⟩ := hrel
    obtain ⟨wi, hwi⟩ : ∃ wi : World, wi = wr := ⟨_, rfl⟩
    rw [← hwi] at hsp ⊢
    clear hwi
    have x6 := (hsp.fr.blk HA6.out.2 (own_notin HO6.out HA6.out.2 (by decide))).at 6 (v := .slice p1 un c1) rfl
    by_cases hlt : jj < un
    · obtain ⟨gx, hpx, ⟨u0, z0⟩, z1, hnext⟩ := Spoil.at HO6.out hsp hlt
      have HW := Lib.hid (hnext (.int .u32 888))
      have l0 : (0 : Int) ≤ (jj : Int) := by omega
      have l1 : (jj : Int) < (un : Int) := by omega
      rw [hpx]
      rw [hpx] at x6
      clear hsp hnext
      go_wp2_with fail
      refine ⟨⟨jj + 1, by go_num, by omega, ?_⟩, by simp [intOf]; omega⟩
      rw [← hpx]
      exact HW.out
    · obtain rfl : un = jj := by omega
      obtain ⟨f6, ha66⟩ := HA6.out
      have hT : ∀ t ∈ (Value.slice p1 un c1).ownBlock.toList, a13 < t ∧ t < w4.heap.size := fun t ht => ⟨by have := HB4.out.2.2.2 t (by simpa using ht); omega, own_lt HB4.out.2.2.1 (by simpa using ht)⟩
      have hbw := hsp.fr.blk (f6.blk HP.out.2.2.1 (by simp)) (fun hm => by have := hT _ hm; omega)
      have hmd := (HP.out.2.1.grow f6).spoil hsp.fr (fun t ht => by
        have h1 := hT t ht
        refine ⟨mem_ext.2 (.inr ⟨by omega, by omega⟩), fun hm => ?_, fun e => by have := HLB.out.2; omega⟩
        rcases mem_ext.1 hm with q | q
        · have := HLB.out.1 t q; omega
        · omega)
      have hFW : Fr (kr :: N) w1 wi := ((HP.out.1.mono (fun s hs => .inl (List.mem_cons_of_mem _ hs))).trans f6 (by simp)).trans hsp.fr (fun t ht => .inr (by have := hT t ht; omega))
      have hIW : IdS wi (.slice up un uc) I := HIN.out wi (hFW.mono (fun s hs => .inl (by
        rcases List.mem_cons.1 hs with rfl | hs
        · exact HS.out.1.rb.mem.1
        · exact HS.out.1.sub s hs)))
      have d7 := hbw.at 7 (v := .int .u32 a0) rfl
      have d8 := hbw.at 8 (v := .int .u32 a1) rfl
      have d9 := hbw.at 9 (v := .int .u32 a2) rfl
      have d10 := hbw.at 10 (v := .int .i32 a3) rfl
      have d11 := hbw.at 11 (v := .int .i32 a4) rfl
      have d12 := hbw.at 12 (v := .float .f64 sp) rfl
      have d13 := hbw.at 13 (v := .slice up un uc) rfl
      have HR := Lib.hid ((rlay wi _ kr rO rN F V ⟨a0, a1, a2, a3, a4, sp, up, un, uc⟩ ⟨a0, a1, a2, a3, a4, sp, I⟩ hmd.rb ⟨rfl, rfl, rfl, rfl, rfl, rfl, hIW⟩ (by have := HS.out.1.kb.lens.2.1; omega) (by dsimp only; have := HU.out.1; omega)).mono fun e w' hp => rlay_e hmd.rb hp)
      rw [← HE.out] at HR
      dsimp only at HR
      have HMD := Lib.hid (And.intro hmd hFW)
      clear hmd hFW hIW hbw hsp f6 ha66
      go_wp2_with fail
      (with_reducible refine (HR.out).mono ?_)
      rintro e w7 ⟨rfl, hr, f7⟩
      have HF := Lib.hid (And.intro hr f7)
      clear hr f7
      go_wp2_with fail
      refine bodyPost_ret (v := .bool true) (by simp [results, Tryd.results54, go_sem]) rfl ⟨rfl, _, _, F, V2, HMD.out.1.ref HF.out.2 HF.out.1, (HS.out.2.mono (by simp)).trans (HMD.out.2.trans HF.out.2 (fun s hs => .inl (by simp at hs; simp [hs]))) (fun s hs => .inl hs), fun s hs => ?_, fun s hs => ?_, fun s hs => mem_ext.2 (.inl hs)⟩
      · rcases mem_ext.1 hs with q | q
        · exact .inl q
        · have := HS.out.2.size
          exact .inr (by omega)
      · rcases mem_ext.1 hs with q | q
        · exact .inl q
        · have := HS.out.2.size
          exact .inr (by omega)
end Go.Proofs.YtgoolkgjcmdilaaDoor
end
