/-
  Tb, part 18 of 36: the texts ObG ObH.
-/
import Derived.Test.YtgoolkgjcmdilaaDoorTb5
import Derived.Test.YtgoolkgjcmdilaaDoorTb17
section
namespace Go.Proofs.YtgoolkgjcmdilaaDoor
open Go.RowKit
set_option linter.unusedVariables false
set_option linter.unusedSimpArgs false
attribute [local go_sem] Oper.semAt_some
theorem ids_nil (w : World) (c : Nat) (hc : c ≤ maxLen) : IdS w (.slice none 0 c) [] := ⟨none, c, rfl, Nat.zero_le _, hc, rfl, .inl rfl⟩
/-- A new object. -/
def newO (id num t px py : Int) : VO := ⟨id, num, t, px, py, 0, []⟩
theorem RBook.mem {w : World} {M : List Nat} {kr : Nat} {r0 r1 : Int} {F : List Int} {V : List VO} (h : RBook w M kr r0 r1 F V) : kr ∈ M ∧ ∀ m ∈ M, m < w.heap.size := by
  obtain ⟨_, _, _, h⟩ := h
  exact ⟨h.mem, h.low⟩
/-- Blocks made since may turn, too. -/
theorem RBook.more {w w' : World} {M : List Nat} {kr : Nat} {r0 r1 : Int} {F : List Int} {V : List VO} (A : List Nat) (h : RBook w M kr r0 r1 F V) (f : Fr [] w w') (hA : ∀ a ∈ A, w.heap.size ≤ a ∧ a < w'.heap.size) : RBook w' (A ++ M) kr r0 r1 F V :=
  h.step f (by simp) (by simp) (fun x hx => by
    rcases List.mem_append.1 hx with q | q
    · exact .inr (hA x q).1
    · exact .inl q) (fun x hx => by
    rcases List.mem_append.1 hx with q | q
    · exact (hA x q).2
    · exact Nat.lt_of_lt_of_le (h.mem.2 x q) f.size) (List.mem_append_right _ h.mem.1)
/-- .. and are of no account again. -/
theorem RBook.less {w w' : World} {M : List Nat} {kr : Nat} {r0 r1 : Int} {F : List Int} {V : List VO} (A : List Nat) (h : RBook w (A ++ M) kr r0 r1 F V) (f : Fr A w w') (hk : kr ∉ A) (hkM : kr ∈ M) : RBook w' M kr r0 r1 F V :=
  h.step f (fun x hx => .inl (List.mem_append_left _ hx)) hk (fun x hx => .inl (List.mem_append_right _ hx)) (fun x hx => Nat.lt_of_lt_of_le (h.mem.2 x (List.mem_append_right _ hx)) f.size) hkM
set_option maxRecDepth 100000 in
theorem rmove_full (w : World) (M : List Nat) (kr : Nat) (r0 r1 : Int) (F : List Int) (V : List VO) (id num t qx qy : Int) (h : RBook w M kr r0 r1 F V) (hz : posV V id < 0) (hr : r0 ≤ (V.length : Int)) :
    Calls Tryd.prog 116 #[.pointer (some ⟨kr, 0, none⟩), .int .u32 id, .int .u32 num, .int .u32 t, .agg #[.int .i32 qx, .int .i32 qy]] w fun e w' => e = .returned (.tuple #[.agg #[.int .i32 0, .int .i32 0], .bool false, .int .i64 5]) ∧ Fr [] w w' := by
  have F0 : Fr [] w ((w.alloc (.cells #[.int .i32 qx, .int .i32 qy] 98)).alloc (.cells #[.int .i32 0, .int .i32 0] 98)) := ((Fr.refl _ _).alloc _).alloc _
  have hA := (Blk.new w #[.int .i32 qx, .int .i32 qy] 98).alloc (.cells #[.int .i32 0, .int .i32 0] 98)
  have hR := Blk.new (w.alloc (.cells #[.int .i32 qx, .int .i32 qy] 98)) #[.int .i32 0, .int .i32 0] 98
  rw [show (w.alloc (.cells #[.int .i32 qx, .int .i32 qy] 98)).heap.size = w.heap.size + 1 by simp] at hR
  have hk : kr < w.heap.size := by obtain ⟨_, _, _, h⟩ := h; exact Blk.lt h.hd
  have h0 := h.grow F0
  have HF := Lib.hid (rfind _ M kr r0 r1 F V id h0)
  obtain ⟨vL, vF, L, h0⟩ := h0
  obtain ⟨pL, cL, rfl⟩ := h0.obs.out.form
  have d2 := h0.hd.at 2 (v := .slice pL L.length cL) rfl
  have d0 := h0.hd.at 0 (v := .int .i64 r0) rfl
  have hlen : r0 ≤ (L.length : Int) := by rw [h0.len]; exact hr
  have HR := Lib.hid (And.intro hR F0)
  clear h h0 hA hR F0 hr hk
  generalize posV V id = z at *
  go_enter Tryd.func116, Tryd.ntmps116
  go_wp2_with fail
  (with_reducible refine (HF.out).mono ?_)
  rintro e w1 ⟨rfl, rfl⟩
  go_wp2_with fail
  go_quiet (fail)
  rename Nat => nq
  have HR2 := Lib.hid (And.intro (HR.out.1.drewN nq) (HR.out.2.drewN nq))
  obtain ⟨w5, hw5⟩ : ∃ w5, w5 = ((w.alloc (.cells #[.int .i32 qx, .int .i32 qy] 98)).alloc (.cells #[.int .i32 0, .int .i32 0] 98)).drewN nq := ⟨_, rfl⟩
  rw [← hw5] at HR2 ⊢
  clear HR HF d2 d0 hw5
  have e0 := HR2.out.1.at 0 (v := .int .i32 0) rfl
  have e1 := HR2.out.1.at 1 (v := .int .i32 0) rfl
  have f0 := HR2.out.1.free 0
  have f1 := HR2.out.1.free 1
  go_wp2_with fail
  have hR5 : Blk ((w5.setCell ⟨w.heap.size + 1, 0, none⟩ (.int .i32 0)).setCell ⟨w.heap.size + 1, 1, none⟩ (.int .i32 0)) (w.heap.size + 1) #[.int .i32 0, .int .i32 0] 98 := by simpa using (HR2.out.1.set 0 (.int .i32 0)).set 1 (.int .i32 0)
  have F5 : Fr [] w ((w5.setCell ⟨w.heap.size + 1, 0, none⟩ (.int .i32 0)).setCell ⟨w.heap.size + 1, 1, none⟩ (.int .i32 0)) := (HR2.out.2.setCell _ _ (.inr (by simp))).setCell _ _ (.inr (by simp))
  clear e0 e1 f0 f1
  have e0 := hR5.at 0 (v := .int .i32 0) rfl
  have e1 := hR5.at 1 (v := .int .i32 0) rfl
  exact bodyPost_ret (v := .tuple #[.agg #[.int .i32 0, .int .i32 0], .bool false, .int .i64 5]) (by simp [results, Tryd.results116, go_sem, e0, e1]) rfl ⟨rfl, F5⟩
set_option maxRecDepth 100000 in
theorem rmove_new (w : World) (M : List Nat) (kr : Nat) (r0 r1 : Int) (F : List Int) (V : List VO) (id num t qx qy : Int) (h : RBook w M kr r0 r1 F V) (hz : posV V id < 0) (hr : ¬ r0 ≤ (V.length : Int)) (hr0 : r0 ≤ 64) :
    Calls Tryd.prog 116 #[.pointer (some ⟨kr, 0, none⟩), .int .u32 id, .int .u32 num, .int .u32 t, .agg #[.int .i32 qx, .int .i32 qy]] w (RBPost w M kr r0 r1 F (putV V (newO id num t qx qy)) (.tuple #[.agg #[.int .i32 0, .int .i32 0], .bool false, .int .i64 0])) := by
  have F0 : Fr [] w ((w.alloc (.cells #[.int .i32 qx, .int .i32 qy] 98)).alloc (.cells #[.int .i32 0, .int .i32 0] 98)) := ((Fr.refl _ _).alloc _).alloc _
  have hA := (Blk.new w #[.int .i32 qx, .int .i32 qy] 98).alloc (.cells #[.int .i32 0, .int .i32 0] 98)
  have hR := Blk.new (w.alloc (.cells #[.int .i32 qx, .int .i32 qy] 98)) #[.int .i32 0, .int .i32 0] 98
  rw [show (w.alloc (.cells #[.int .i32 qx, .int .i32 qy] 98)).heap.size = w.heap.size + 1 by simp] at hR
  have hk : kr < w.heap.size := by obtain ⟨_, _, _, h⟩ := h; exact Blk.lt h.hd
  have h0 := h.grow F0
  have HF := Lib.hid (rfind _ M kr r0 r1 F V id h0)
  have hm := h.mem
  have HB := Lib.hid (h.more [w.heap.size + 1] F0 (fun a ha => by simp at ha; subst ha; exact ⟨by omega, by simp⟩))
  obtain ⟨vL, vF, L, h0⟩ := h0
  obtain ⟨pL, cL, rfl⟩ := h0.obs.out.form
  have d2 := h0.hd.at 2 (v := .slice pL L.length cL) rfl
  have d0 := h0.hd.at 0 (v := .int .i64 r0) rfl
  have hlen : ¬ r0 ≤ (L.length : Int) := by rw [h0.len]; exact hr
  have HR := Lib.hid (And.intro hR (And.intro F0 (And.intro hA (And.intro hr (And.intro hk hm.1)))))
  clear h h0 hA hR F0 hr hk hm
  generalize posV V id = z at *
  go_enter Tryd.func116, Tryd.ntmps116
  go_wp2_with fail
  (with_reducible refine (HF.out).mono ?_)
  rintro e w1 ⟨rfl, rfl⟩
  go_wp2_with fail
  go_quiet (fail)
  rename Nat => nq
  obtain ⟨hR, F0, hA, hr, hk, hkM⟩ := HR.out
  have hb5 := HB.out.grow ((Fr.refl [] _).drewN nq)
  obtain ⟨w5, hw5⟩ : ∃ w5, w5 = ((w.alloc (.cells #[.int .i32 qx, .int .i32 qy] 98)).alloc (.cells #[.int .i32 0, .int .i32 0] 98)).drewN nq := ⟨_, rfl⟩
  have hR5 := hR.drewN nq
  have hA5 := hA.drewN nq
  have F5 := F0.drewN nq
  rw [← hw5] at hR5 hA5 F5 hb5 ⊢
  have q0 := hA5.at 0 (v := .int .i32 qx) rfl
  have q1 := hA5.at 1 (v := .int .i32 qy) rfl
  have hcall := rput w5 ([w.heap.size + 1] ++ M) kr r0 r1 F V ⟨id, num, t, qx, qy, 0, none, 0, 0⟩ (newO id num t qx qy) hb5 (fun W _ => ⟨rfl, rfl, rfl, rfl, rfl, rfl, ids_nil W 0 (by decide)⟩) (by simp [newO]) (by omega)
  have HY := Lib.hid (show Calls Tryd.prog 146 #[.pointer (some ⟨kr, 0, none⟩), .agg #[.int .u32 id, .int .u32 num, .int .u32 t, .int .i32 qx, .int .i32 qy, .float .f64 0, .slice none 0 0]] _ _ from hcall)
  have HR2 := Lib.hid (And.intro hR5 (And.intro F5 (And.intro hk hkM)))
  clear HR HF HB d2 d0 hw5 hR F0 hA hr hk hkM hR5 hA5 F5 hb5 hcall
  go_wp2_with fail
  (with_reducible refine (HY.out).mono ?_)
  rintro e w6 ⟨rfl, hb6, f6⟩
  have hne : w.heap.size + 1 ∉ [kr] := by have := HR2.out.2.2.1; simp; omega
  have hR6 := f6.blk HR2.out.1 hne
  have e0 := hR6.at 0 (v := .int .i32 0) rfl
  have e1 := hR6.at 1 (v := .int .i32 0) rfl
  have f0 := hR6.free 0
  have f1 := hR6.free 1
  have HB6 := Lib.hid (And.intro hb6 (And.intro f6 (And.intro hR6 hne)))
  clear hb6 f6 hR6 hne q0 q1
  go_wp2_with fail
  obtain ⟨hb6, f6, hR6, hne⟩ := HB6.out
  have hR7 : Blk ((w6.setCell ⟨w.heap.size + 1, 0, none⟩ (.int .i32 0)).setCell ⟨w.heap.size + 1, 1, none⟩ (.int .i32 0)) (w.heap.size + 1) #[.int .i32 0, .int .i32 0] 98 := by simpa using (hR6.set 0 (.int .i32 0)).set 1 (.int .i32 0)
  have F7 : Fr [w.heap.size + 1] w6 ((w6.setCell ⟨w.heap.size + 1, 0, none⟩ (.int .i32 0)).setCell ⟨w.heap.size + 1, 1, none⟩ (.int .i32 0)) := ((Fr.refl _ _).setCell _ _ (.inl (by simp))).setCell _ _ (.inl (by simp))
  clear e0 e1 f0 f1
  have e0 := hR7.at 0 (v := .int .i32 0) rfl
  have e1 := hR7.at 1 (v := .int .i32 0) rfl
  have hfin : RBPost w M kr r0 r1 F (putV V (newO id num t qx qy)) (.tuple #[.agg #[.int .i32 0, .int .i32 0], .bool false, .int .i64 0]) (.returned (.tuple #[.agg #[.int .i32 0, .int .i32 0], .bool false, .int .i64 0])) _ := ⟨rfl, hb6.less [w.heap.size + 1] F7 (fun hq => hne (by simp at hq ⊢; exact hq.symm)) HR2.out.2.2.2 , ((HR2.out.2.1.mono (T := [kr]) (by simp)).trans f6 (fun s hs => .inl hs)).trans F7 (fun s hs => .inr (by simp at hs; omega))⟩
  exact bodyPost_ret (v := .tuple #[.agg #[.int .i32 0, .int .i32 0], .bool false, .int .i64 0]) (by simp [results, Tryd.results116, go_sem, e0, e1]) rfl hfin
def MoveOPost (w : World) (M : List Nat) (kr : Nat) (r0 r1 : Int) (F : List Int) (V : List VO) (r : Nat) (o : VO) (num t qx qy : Int) (e : Ending) (w' : World) : Prop :=
  ∃ s, e = .returned (.tuple #[.agg #[.int .i32 o.px, .int .i32 o.py], .bool true, .int .i64 0]) ∧ SpR o.px o.py qx qy o.t t o.sp s ∧ RBook w' M kr r0 r1 F (V.set r { o with num := num, t := t, px := qx, py := qy, sp := s }) ∧ Fr [kr] w w'
set_option maxRecDepth 100000 in
set_option maxHeartbeats 800000 in
theorem rmove_old (w : World) (M : List Nat) (kr : Nat) (r0 r1 : Int) (F : List Int) (V : List VO) (id num t qx qy : Int) (r : Nat) (o : VO) (h : RBook w M kr r0 r1 F V) (hz : posV V id = r) (ho : V[r]? = some o) (b1 : I32 o.px) (b2 : I32 o.py) (b3 : 0 ≤ o.t) (b4 : I32 qx) (b5 : I32 qy) (b6 : t ≤ 4294967295) :
    Calls Tryd.prog 116 #[.pointer (some ⟨kr, 0, none⟩), .int .u32 id, .int .u32 num, .int .u32 t, .agg #[.int .i32 qx, .int .i32 qy]] w (MoveOPost w M kr r0 r1 F V r o num t qx qy) := by
  have F0 : Fr [] w ((w.alloc (.cells #[.int .i32 qx, .int .i32 qy] 98)).alloc (.cells #[.int .i32 0, .int .i32 0] 98)) := ((Fr.refl _ _).alloc _).alloc _
  have hA := (Blk.new w #[.int .i32 qx, .int .i32 qy] 98).alloc (.cells #[.int .i32 0, .int .i32 0] 98)
  have hR := Blk.new (w.alloc (.cells #[.int .i32 qx, .int .i32 qy] 98)) #[.int .i32 0, .int .i32 0] 98
  rw [show (w.alloc (.cells #[.int .i32 qx, .int .i32 qy] 98)).heap.size = w.heap.size + 1 by simp] at hR
  have hk : kr < w.heap.size := by obtain ⟨_, _, _, h⟩ := h; exact Blk.lt h.hd
  have h0 := h.grow F0
  have hm := h.mem
  have HF := Lib.hid (rfind _ M kr r0 r1 F V id h0)
  rw [hz] at HF
  obtain ⟨vL, vF, L, h⟩ := h
  obtain ⟨pL, cL, rfl⟩ := h.obs.out.form
  obtain ⟨n, hn⟩ : ∃ n, n = L.length := ⟨_, rfl⟩
  have hrn : r < n := by have := (List.getElem?_eq_some_iff.1 ho).1; have := h.len; omega
  obtain ⟨x, hx⟩ : ∃ x, L[r]? = some x := ⟨_, List.getElem?_eq_getElem (by omega)⟩
  have his := h.is r x o hx ho
  have hol := h.lI r o ho
  obtain ⟨g, o1, cp, hv, hc⟩ := ObS.at h.obs.out hx
  obtain rfl := (Value.slice.inj hv).1
  have hd0 := F0.blk h.hd (by simp)
  have d2 := hd0.at 2 (v := .slice (some ⟨g, o1, none⟩) L.length cL) rfl
  rw [← hn] at d2
  have hc0 := hc.grow F0
  obtain ⟨i0, i1, i2, i3, i4, i5, i6⟩ := his.out
  have z0 := hc0.c0
  have z1 := hc0.c1
  have z2 := hc0.c2
  have z3 := hc0.c3
  have z4 := hc0.c4
  have z5 := hc0.c5
  have z6 := hc0.c6
  rw [i0] at z0
  rw [i1] at z1
  rw [i2] at z2
  rw [i3] at z3
  rw [i4] at z4
  rw [i5] at z5
  have HS := Lib.hid (fun w => rspeed_any w o.sp o.px o.py qx qy o.t t b1 b2 b4 b5 b3 b6)
  have HW := Lib.hid (And.intro h (And.intro his (And.intro ho (And.intro hm (And.intro hol (And.intro hA (And.intro hR F0)))))))
  clear h h0 hA hR F0 hk hm hz ho b1 b2 b3 b4 b5 b6 hn hx his hol hv hc hd0 hc0 i0 i1 i2 i3 i4 i5 i6
  go_enter Tryd.func116, Tryd.ntmps116
  go_wp2_with fail
  (with_reducible refine (HF.out).mono ?_)
  rintro e w1 ⟨rfl, rfl⟩
  go_wp2_with fail
  obtain ⟨h, his, ho, hm, hol, hA, hR, F0⟩ := HW.out
  have hA4 := (hA.alloc (.cells #[.int .u32 o.id, .int .u32 o.num, .int .u32 o.t, .int .i32 o.px, .int .i32 o.py, .float .f64 o.sp, .slice x.p x.n x.c] 119)).alloc (.cells #[.int .i32 o.px, .int .i32 o.py] 98)
  have hR4 := (hR.alloc (.cells #[.int .u32 o.id, .int .u32 o.num, .int .u32 o.t, .int .i32 o.px, .int .i32 o.py, .float .f64 o.sp, .slice x.p x.n x.c] 119)).alloc (.cells #[.int .i32 o.px, .int .i32 o.py] 98)
  have hO4 := (Blk.new_at (w := (w.alloc (.cells #[.int .i32 qx, .int .i32 qy] 98)).alloc (.cells #[.int .i32 0, .int .i32 0] 98)) (k := w.heap.size + 1 + 1) (by simp) #[.int .u32 o.id, .int .u32 o.num, .int .u32 o.t, .int .i32 o.px, .int .i32 o.py, .float .f64 o.sp, .slice x.p x.n x.c] 119).alloc (.cells #[.int .i32 o.px, .int .i32 o.py] 98)
  have hP4 := Blk.new_at (w := ((w.alloc (.cells #[.int .i32 qx, .int .i32 qy] 98)).alloc (.cells #[.int .i32 0, .int .i32 0] 98)).alloc (.cells #[.int .u32 o.id, .int .u32 o.num, .int .u32 o.t, .int .i32 o.px, .int .i32 o.py, .float .f64 o.sp, .slice x.p x.n x.c] 119)) (k := w.heap.size + 1 + 1 + 1) (by simp) #[.int .i32 o.px, .int .i32 o.py] 98
  have F4 := (F0.alloc (.cells #[.int .u32 o.id, .int .u32 o.num, .int .u32 o.t, .int .i32 o.px, .int .i32 o.py, .float .f64 o.sp, .slice x.p x.n x.c] 119)).alloc (.cells #[.int .i32 o.px, .int .i32 o.py] 98)
  obtain ⟨w4, hw4⟩ : ∃ w4, (((w.alloc (.cells #[.int .i32 qx, .int .i32 qy] 98)).alloc (.cells #[.int .i32 0, .int .i32 0] 98)).alloc (.cells #[.int .u32 o.id, .int .u32 o.num, .int .u32 o.t, .int .i32 o.px, .int .i32 o.py, .float .f64 o.sp, .slice x.p x.n x.c] 119)).alloc (.cells #[.int .i32 o.px, .int .i32 o.py] 98) = w4 := ⟨_, rfl⟩
  obtain ⟨a3, ha3⟩ : ∃ a3, a3 = w.heap.size + 1 + 1 + 1 := ⟨_, rfl⟩
  obtain ⟨a2, ha2⟩ : ∃ a2, a2 = w.heap.size + 1 + 1 := ⟨_, rfl⟩
  obtain ⟨a1, ha1⟩ : ∃ a1, a1 = w.heap.size + 1 := ⟨_, rfl⟩
  obtain ⟨a0, ha0⟩ : ∃ a0, a0 = w.heap.size := ⟨_, rfl⟩
  have hord : w.heap.size ≤ a0 ∧ a0 < a1 ∧ a1 < a2 ∧ a2 < a3 := by omega
  rw [hw4] at hA4 hR4 hO4 hP4 F4 ⊢
  rw [← ha3] at hP4 ⊢
  rw [← ha2] at hO4 ⊢
  rw [← ha1] at hR4 ⊢
  rw [← ha0] at hA4 ⊢
  have HU := Lib.hid (And.intro h (And.intro his (And.intro hm (And.intro hol (And.intro hA4 (And.intro hR4 (And.intro hO4 (And.intro hP4 (And.intro F4 hord)))))))))
  clear h his ho hm hol hA hR F0 hA4 hR4 hO4 hP4 F4 hord hw4 ha3 ha2 ha1 ha0 HW HF d2 z0 z1 z2 z3 z4 z5 z6
  (with_reducible refine (HS.out _).mono ?_)
  rintro e w5 ⟨s, rfl, hs, f5⟩
  obtain ⟨h, his, hm, hol, hA4, hR4, hO4, hP4, F4, hord⟩ := HU.out
  have hA5 := f5.blk hA4 (by simp)
  have hR5 := f5.blk hR4 (by simp)
  have hO5 := f5.blk hO4 (by simp)
  have hP5 := f5.blk hP4 (by simp)
  have q0 := hA5.at 0 (v := .int .i32 qx) rfl
  have q1 := hA5.at 1 (v := .int .i32 qy) rfl
  have y0 := hO5.at 0 (v := .int .u32 o.id) rfl
  have y1 := hO5.at 1 (v := .int .u32 o.num) rfl
  have y2 := hO5.at 2 (v := .int .u32 o.t) rfl
  have y3 := hO5.at 3 (v := .int .i32 o.px) rfl
  have y4 := hO5.at 4 (v := .int .i32 o.py) rfl
  have y5 := hO5.at 5 (v := .float .f64 o.sp) rfl
  have y6 := hO5.at 6 (v := .slice x.p x.n x.c) rfl
  have e1 := hO5.free 1
  have e2 := hO5.free 2
  have e3 := hO5.free 3
  have e4 := hO5.free 4
  have e5 := hO5.free 5
  have hne : ¬ a0 = a2 := by omega
  have f05 := F4.trans f5 (by simp)
  have FC : Fr [a2] w5 (((((w5.setCell ⟨a2, 5, none⟩ (.float .f64 s)).setCell ⟨a2, 1, none⟩ (.int .u32 num)).setCell ⟨a2, 2, none⟩ (.int .u32 t)).setCell ⟨a2, 3, none⟩ (.int .i32 qx)).setCell ⟨a2, 4, none⟩ (.int .i32 qy)) := (((((Fr.refl [a2] w5).setCell _ _ (.inl (by simp))).setCell _ _ (.inl (by simp))).setCell _ _ (.inl (by simp))).setCell _ _ (.inl (by simp))).setCell _ _ (.inl (by simp))
  have F06 : Fr [] w (((((w5.setCell ⟨a2, 5, none⟩ (.float .f64 s)).setCell ⟨a2, 1, none⟩ (.int .u32 num)).setCell ⟨a2, 2, none⟩ (.int .u32 t)).setCell ⟨a2, 3, none⟩ (.int .i32 qx)).setCell ⟨a2, 4, none⟩ (.int .i32 qy)) := ((((f05.setCell _ _ (.inr (by simp; omega))).setCell _ _ (.inr (by simp; omega))).setCell _ _ (.inr (by simp; omega))).setCell _ _ (.inr (by simp; omega))).setCell _ _ (.inr (by simp; omega))
  have hk2 : kr < w.heap.size := hm.2 kr hm.1
  have hb6 := RBook.more [a1] ⟨_, _, _, h⟩ F06 (fun a ha => by simp at ha; subst ha; exact ⟨by omega, Nat.lt_of_lt_of_le hR5.lt FC.size⟩)
  have his6 := his.step (M' := [a1] ++ M) F06 (by simp) (fun y hy => by
    rcases List.mem_append.1 hy with q | q
    · simp at q; exact .inr (by omega)
    · exact .inl q)
  have hcall := rwith _ ([a1] ++ M) kr r0 r1 F V r ⟨o.id, num, t, qx, qy, s, x.p, x.n, x.c⟩ { o with num := num, t := t, px := qx, py := qy, sp := s } hb6 (fun W F => by
    have a := his6 W F
    exact ⟨rfl, rfl, rfl, rfl, rfl, rfl, a.2.2.2.2.2.2⟩) hol
  have HY := Lib.hid (show Calls Tryd.prog 147 #[.pointer (some ⟨kr, 0, none⟩), .int .i64 r, .agg #[.int .u32 o.id, .int .u32 num, .int .u32 t, .int .i32 qx, .int .i32 qy, .float .f64 s, .slice x.p x.n x.c]] _ _ from hcall)
  have HZ := Lib.hid (And.intro hs (And.intro (FC.blk hR5 (by simp; omega)) (And.intro (FC.blk hP5 (by simp; omega)) (And.intro F06 (And.intro hm (And.intro hord hk2))))))
  clear h his hm hol hA4 hR4 hO4 hP4 F4 hord hA5 hR5 hO5 hP5 f05 FC F06 hk2 hb6 his6 hcall hs f5 HU HS
  go_wp2_with fail
  (with_reducible refine (HY.out).mono ?_)
  rintro e w7 ⟨rfl, hb7, f7⟩
  obtain ⟨hs, hR6, hP6, F06, hm, hord, hk2⟩ := HZ.out
  have hn1 : a1 ∉ [kr] := by simp; omega
  have hn3 : a3 ∉ [kr] := by simp; omega
  have hR7 := f7.blk hR6 hn1
  have hP7 := f7.blk hP6 hn3
  have u0 := hR7.at 0 (v := .int .i32 0) rfl
  have u1 := hR7.at 1 (v := .int .i32 0) rfl
  have v0 := hR7.free 0
  have v1 := hR7.free 1
  have p0 := hP7.at 0 (v := .int .i32 o.px) rfl
  have p1 := hP7.at 1 (v := .int .i32 o.py) rfl
  have HV := Lib.hid (And.intro hs (And.intro hR7 (And.intro hb7 (And.intro f7 (And.intro F06 (And.intro hm (And.intro hord hk2)))))))
  clear hs hR6 hP6 F06 hm hord hk2 hn1 hn3 hR7 hP7 hb7 f7 HZ HY hne q0 q1 y0 y1 y2 y3 y4 y5 y6 e1 e2 e3 e4 e5
  go_wp2_with fail
  obtain ⟨hs, hR7, hb7, f7, F06, hm, hord, hk2⟩ := HV.out
  have hR8 : Blk ((w7.setCell ⟨a1, 0, none⟩ (.int .i32 o.px)).setCell ⟨a1, 1, none⟩ (.int .i32 o.py)) a1 #[.int .i32 o.px, .int .i32 o.py] 98 := by simpa using (hR7.set 0 (.int .i32 o.px)).set 1 (.int .i32 o.py)
  have F8 : Fr [a1] w7 ((w7.setCell ⟨a1, 0, none⟩ (.int .i32 o.px)).setCell ⟨a1, 1, none⟩ (.int .i32 o.py)) := ((Fr.refl _ _).setCell _ _ (.inl (by simp))).setCell _ _ (.inl (by simp))
  clear u0 u1 v0 v1 p0 p1
  have u0 := hR8.at 0 (v := .int .i32 o.px) rfl
  have u1 := hR8.at 1 (v := .int .i32 o.py) rfl
  have hfin : MoveOPost w M kr r0 r1 F V r o num t qx qy (.returned (.tuple #[.agg #[.int .i32 o.px, .int .i32 o.py], .bool true, .int .i64 0])) _ := ⟨s, rfl, hs, hb7.less [a1] F8 (by simp; omega) hm.1, ((F06.mono (T := [kr]) (by simp)).trans f7 (fun s hs => .inl hs)).trans F8 (fun s hs => .inr (by simp at hs; omega))⟩
  exact bodyPost_ret (v := .tuple #[.agg #[.int .i32 o.px, .int .i32 o.py], .bool true, .int .i64 0]) (by simp [results, Tryd.results116, go_sem, u0, u1]) rfl hfin
end Go.Proofs.YtgoolkgjcmdilaaDoor
end
section
namespace Go.Proofs.YtgoolkgjcmdilaaDoor
open Go.RowKit
set_option linter.unusedVariables false
set_option linter.unusedSimpArgs false
attribute [local go_sem] Oper.semAt_some
/-- Strictly rising. -/
def UpI (l : List Int) : Prop := l.Pairwise (· < ·)
theorem upI_take_succ {l : List Int} {k : Nat} {a b : Int} (h : UpI (l.take (k + 1))) (ha : l[k]? = some a) (hb : l[k + 1]? = some b) : UpI (l.take (k + 1 + 1)) ↔ a < b := by
  unfold UpI at h ⊢
  rw [take_snoc hb, List.pairwise_append]
  constructor
  · rintro ⟨_, _, h3⟩
    refine h3 a ?_ b (by simp)
    rw [take_snoc ha]; simp
  · intro hab
    refine ⟨h, by simp, fun x hx y hy => ?_⟩
    simp at hy
    subst hy
    rw [take_snoc ha, List.pairwise_append] at h
    rw [take_snoc ha] at hx
    rcases List.mem_append.1 hx with q | q
    · have := h.2.2 x q a (by simp); omega
    · simp at q; omega
theorem upI_take {l : List Int} (h : UpI l) (k : Nat) : UpI (l.take k) := List.Pairwise.sublist (List.take_sublist k l) h
theorem upI_nodup {l : List Int} (h : UpI l) : l.Nodup := List.Pairwise.imp (fun h => by omega) h
theorem upI_small {l F : List Int} (h : UpI l) (hs : ∀ x ∈ l, x ∈ F) : l.length ≤ F.length := List.Nodup.length_le_of_subset (upI_nodup h) hs
/-- What Lay answers. -/
def LayPost (w : World) (M : List Nat) (kr : Nat) (r0 r1 : Int) (F : List Int) (V : List VO) (o : VO) (e : Ending) (w' : World) : Prop :=
  (¬ UpI o.ids ∧ e = .returned (.int .i64 2) ∧ Fr [] w w') ∨
  (UpI o.ids ∧ 0 ≤ posV V o.id ∧ e = .returned (.int .i64 2) ∧ Fr [] w w') ∨
  (UpI o.ids ∧ posV V o.id < 0 ∧ r0 ≤ (V.length : Int) ∧ e = .returned (.int .i64 5) ∧ Fr [] w w') ∨
  (UpI o.ids ∧ posV V o.id < 0 ∧ ¬ r0 ≤ (V.length : Int) ∧ ¬ (∀ f ∈ o.ids, f ∈ F) ∧ e = .returned (.int .i64 181) ∧ Fr [] w w') ∨
  (UpI o.ids ∧ posV V o.id < 0 ∧ ¬ r0 ≤ (V.length : Int) ∧ (∀ f ∈ o.ids, f ∈ F) ∧ e = .returned (.int .i64 0) ∧ RBook w' M kr r0 r1 F (putV V o) ∧ Fr [kr] w w')
set_option maxRecDepth 100000 in
set_option maxHeartbeats 1000000 in
theorem rlay (w : World) (M : List Nat) (kr : Nat) (r0 r1 : Int) (F : List Int) (V : List VO) (x : RO) (o : VO) (h : RBook w M kr r0 r1 F V) (hx : Is w x o) (hr0 : r0 ≤ 64) (hI : o.ids.length ≤ 70368744177664) :
    Calls Tryd.prog 118 #[.pointer (some ⟨kr, 0, none⟩), .agg #[.int .u32 x.id, .int .u32 x.num, .int .u32 x.t, .int .i32 x.px, .int .i32 x.py, .float .f64 x.sp, .slice x.p x.n x.c]] w (LayPost w M kr r0 r1 F V o) := by
  obtain ⟨xid, xnum, xt, xpx, xpy, xsp, xp, xn, xc⟩ := x
  obtain ⟨i0, i1, i2, i3, i4, i5, i6⟩ := hx
  dsimp only at i0 i1 i2 i3 i4 i5
  subst i0 i1 i2 i3 i4 i5
  unfold RO.v at i6
  dsimp only at i6 ⊢
  obtain ⟨pi, ci, hi⟩ := i6.form
  have hxn : xn = o.ids.length := by have := (Value.slice.inj hi).2.1; exact this
  obtain ⟨n, hn⟩ : ∃ n, n = o.ids.length := ⟨_, rfl⟩
  rw [← hn] at hxn
  obtain rfl : n = xn := hxn.symm
  have F0 : Fr [] w (w.alloc (.cells #[.int .u32 o.id, .int .u32 o.num, .int .u32 o.t, .int .i32 o.px, .int .i32 o.py, .float .f64 o.sp, .slice xp n xc] 119)) := (Fr.refl _ _).alloc _
  have hA := Blk.new w #[.int .u32 o.id, .int .u32 o.num, .int .u32 o.t, .int .i32 o.px, .int .i32 o.py, .float .f64 o.sp, .slice xp n xc] 119
  have h0 := h.grow F0
  have hm := h.mem
  have HB := Lib.hid h0
  have HI := Lib.hid (And.intro (i6.grow F0) hn)
  have HM := Lib.hid (And.intro hm F0)
  have HBw := Lib.hid h
  have hns : n ≤ 70368744177664 := by omega
  clear h hi hn i6 hI h0 hm
  go_enter Tryd.func118, Tryd.ntmps118
  go_wp2
  obtain ⟨w0, hw0⟩ : ∃ w0, w.alloc (.cells #[.int .u32 o.id, .int .u32 o.num, .int .u32 o.t, .int .i32 o.px, .int .i32 o.py, .float .f64 o.sp, .slice xp n xc] 119) = w0 := ⟨_, rfl⟩
  obtain ⟨a0, ha0⟩ : ∃ a0, a0 = w.heap.size := ⟨_, rfl⟩
  have HO := Lib.hid (show w.heap.size ≤ a0 by omega)
  rw [hw0] at hA HB HI HM F0 ⊢
  rw [← ha0] at hA ⊢
  have HA := Lib.hid hA
  clear hw0 ha0 hA F0
  go_loopw [5] (fun i wr => ∃ k : Nat, (n = 0 ∧ k = 0 ∨ k < n) ∧ i = .int .i64 ((k : Int) + 1) ∧ UpI (o.ids.take (k + 1)) ∧ Fr [] w0 wr) (fun i _ => n + 1 - (intOf i).toNat)
  case atStart =>
    refine ⟨0, by omega, rfl, ?_, Fr.refl _ _⟩
    unfold UpI
    cases o.ids with
    | nil => simp
    | cons y l => simp
  case round =>
    obtain ⟨k, hk, rfl, hup, hf⟩ := hrel
    have HG := Lib.hid (And.intro hup hf)
    have hA := hf.blk HA.out (by simp)
    have y0 := hA.at 0 (v := .int .u32 o.id) rfl
    have y6 := hA.at 6 (v := .slice xp n xc) rfl
    have HA1 := Lib.hid hA
    clear hA hf
    by_cases hlt : k + 1 < n
    · obtain ⟨a, ha⟩ : ∃ a, o.ids[k]? = some a := ⟨_, List.getElem?_eq_getElem (by have := HI.out.2; omega)⟩
      obtain ⟨b, hb⟩ : ∃ b, o.ids[k + 1]? = some b := ⟨_, List.getElem?_eq_getElem (by have := HI.out.2; omega)⟩
      have hI1 := HI.out.1.grow HG.out.2
      obtain ⟨g, o1, cp, hv, c0⟩ := IdS.at hI1 ha
      obtain ⟨g2, o2, cp2, hv2, c1⟩ := IdS.at hI1 hb
      have e2 := (Value.slice.inj (hv.symm.trans hv2)).1
      obtain rfl := (Value.slice.inj hv).1
      cases e2
      have hiff := upI_take_succ hup ha hb
      clear hv hv2 ha hb hup hI1
      have k1 : IntKind.i64.wrap ((k : Int) + 1 - 1) = (k : Int) := by rw [show (k : Int) + 1 - 1 = k by omega]; exact IntWalk.i64_in _ (by omega)
      have k2 : IntKind.i64.wrap (k : Int) = (k : Int) := IntWalk.i64_in _ (by omega)
      have k3 : k < n := by omega
      have k4 : 0 ≤ (k : Int) + 1 := by omega
      have k5 : ((k : Int) + 1).toNat = k + 1 := by omega
      by_cases hab : a < b
      · have HU := Lib.hid (hiff.2 hab)
        clear hiff
        go_wp2_with fail
        go_quiet (fail)
        rename Nat => nq
        clear k1 k2 k4 k5
        go_wp2
        go_roundw
        case rel => exact ⟨k + 1, by omega, by go_num, HU.out, HG.out.2.drewN _⟩
        case measure => simp [intOf]; omega
      · have hnu : ¬ UpI o.ids := fun h => hab (hiff.1 (upI_take h _))
        have HN := Lib.hid hnu
        clear hiff hnu
        go_wp2_with fail
        go_quiet (fail)
        clear k1 k2 k4 k5
        go_wp2
        go_ret
        exact .inl ⟨HN.out, rfl, (HM.out.2.trans HG.out.2 (by simp)).drewN _⟩
    · have hfull : UpI o.ids := by
        have := hup
        rwa [List.take_of_length_le (by have := HI.out.2; omega)] at this
      have HU := Lib.hid hfull
      clear hup hfull
      have HB1 := Lib.hid (HB.out.grow HG.out.2)
      have hF := rfind wr M kr r0 r1 F V o.id HB1.out
      obtain ⟨z, hzz⟩ : ∃ z, z = posV V o.id := ⟨_, rfl⟩
      rw [← hzz] at hF
      have HF := Lib.hid hF
      have HZ := Lib.hid hzz
      clear hF hzz
      go_wp2_with fail
      (with_reducible refine (HF.out).mono ?_)
      rintro e w1 ⟨rfl, rfl⟩
      by_cases hz : 0 ≤ z
      · have HR := Lib.hid hz
        go_wp2
        go_ret
        exact .inr (.inl ⟨HU.out, by rw [← HZ.out]; exact HR.out, rfl, HM.out.2.trans HG.out.2 (by simp)⟩)
      · have HR := Lib.hid (show posV V o.id < 0 by rw [← HZ.out]; omega)
        obtain ⟨vL, vF, L, hb⟩ := HB1.out
        obtain ⟨pL, cL, rfl⟩ := hb.obs.out.form
        have d2 := hb.hd.at 2 (v := .slice pL L.length cL) rfl
        have d0 := hb.hd.at 0 (v := .int .i64 r0) rfl
        obtain ⟨N, hN⟩ : ∃ N, N = L.length := ⟨_, rfl⟩
        rw [← hN] at d2
        have HNV := Lib.hid (show N = V.length by rw [hN]; exact hb.len)
        clear hb hN
        by_cases hfull : r0 ≤ (N : Int)
        · have HFu := Lib.hid hfull
          go_wp2_with fail
          go_quiet (fail)
          go_wp2
          go_ret
          exact .inr (.inr (.inl ⟨HU.out, HR.out, by have := HNV.out; have := HFu.out; omega, rfl, (HM.out.2.trans HG.out.2 (by simp)).drewN _⟩))
        · have HFu := Lib.hid hfull
          have HR0 := HR
          clear HR
          go_wp2_with fail
          go_quiet (fail)
          rename Nat => nq
          have hf1 := HG.out.2.drewN nq
          obtain ⟨w3, hw3⟩ : ∃ w3, w3 = wr.drewN nq := ⟨_, rfl⟩
          rw [← hw3] at hf1 ⊢
          have HG3 := Lib.hid hf1
          have HA3 := Lib.hid (hf1.blk HA.out (by simp))
          clear hf1 hw3 d2 d0 y0 y6 HA1 HB1 HF HG
          have y6 := HA3.out.at 6 (v := .slice xp n xc) rfl
          go_wp2
          clear hfull
          go_loopw [6, 7] (fun u i wq => ∃ k : Nat, k ≤ n ∧ i = .int .i64 k ∧ RowNew w0 33 1 wq u k (u32v (o.ids.take k)) ∧ ∀ f ∈ o.ids.take k, f ∈ F) (fun _ i _ => n - (intOf i).toNat)
          case atStart =>
            exact ⟨0, by omega, rfl, ⟨World.ownsRow_nil _ _ _ _, fun g hg => by simp [Value.ownBlock] at hg, HG3.out⟩, by simp⟩
          case round =>
            obtain ⟨k2, hk2, rfl, hr, hall⟩ := hrel
            obtain ⟨pu, cu, rfl⟩ := hr.form
            have HR := Lib.hid (And.intro hr hall)
            have hAr := hr.fr.blk HA.out (by simp)
            clear y6
            have y6 := hAr.at 6 (v := .slice xp n xc) rfl
            have HAr := Lib.hid hAr
            clear hr hall hAr
            by_cases hlt2 : k2 < n
            · obtain ⟨x, hx⟩ : ∃ x, o.ids[k2]? = some x := ⟨_, List.getElem?_eq_getElem (by have := HI.out.2; omega)⟩
              obtain ⟨g, o1, cp, hv, c0⟩ := IdS.at (HI.out.1.grow HR.out.1.fr) hx
              obtain rfl := (Value.slice.inj hv).1
              obtain ⟨vL2, vF2, L2, hb⟩ := HB.out.grow HR.out.1.fr
              have d3 := hb.hd.at 3 (v := vF2) rfl
              have hC : ∀ m, Calls Tryd.prog 113 #[vF2, .int .u32 x] (wr.drewN m) fun e w' => e = .returned (.bool (decide (x ∈ F))) ∧ w' = wr.drewN m := fun m => (has_ids _ vF2 F x (hb.fen.out.grow ((Fr.refl [] _).drewN m)) (by have := hb.lF; omega)).mono fun _ _ ⟨h1, h2⟩ => ⟨h1, h2.symm⟩
              obtain ⟨pF, cF, rfl⟩ := hb.fen.out.form
              have k1 : IntKind.i64.wrap (k2 : Int) = (k2 : Int) := IntWalk.i64_in _ (by omega)
              have HX := Lib.hid (show o.ids.take (k2 + 1) = o.ids.take k2 ++ [x] from take_snoc hx)
              have HXm := Lib.hid (show x ∈ o.ids from List.mem_of_getElem? hx)
              have HlF := Lib.hid hb.lF
              clear hv hx hb
              by_cases hxF : x ∈ F
              · rw [decide_eq_true hxF] at hC
                have HC := Lib.hid hC
                have HxF := Lib.hid hxF
                clear hC hxF
                go_wp2_with fail
                go_quiet ((go_at_call 113; exact Calls.quiet_of_same (HC.out _)))
                rename Nat => nq2
                have hlen : k2 ≤ 1000 := by have h1 := upI_small (upI_take HU.out k2) HR.out.2; have h2 := HI.out.2; have h3 := HlF.out; rw [List.length_take] at h1; omega
                have HS2 := Lib.hid (And.intro hlen (own_fr (S := []) (HR.out.1.grow ((Fr.refl [] _).drewN nq2)).own ((Fr.refl [] (wr.drewN nq2)).alloc (.cells #[.int .u32 x] 33)) (by simp)))
                clear hlen k1 d3
                go_wp2_with (at_builtin; go_must (refine wpList_app _ rfl (.tmp 61) (.tmp 67) 22 rfl 33 (.int .u32 0) 1 4 Tryd.underlying22 infoU rfl (by decide) _ _ _ rfl HS2.out.2 ⟨_, 0, none⟩ 1 1 [.int .u32 x] rfl rfl (new_one _ _ _ _ rfl) (by simp [Value.oneCell']) (by have := HS2.out.1; unfold maxLen; omega) (by have := HS2.out.1; omega) ?_); intro v2 w2 happ; have HP := Lib.hid happ; clear happ)
                go_roundw
                case rel =>
                  refine ⟨k2 + 1, by omega, by go_num, ?_, ?_⟩
                  · rw [HX.out, u32v_app]
                    exact ((HR.out.1.grow ((Fr.refl [] wr).drewN nq2)).grow ((Fr.refl [] _).alloc _)).app HP.out
                  · intro f hf
                    rw [HX.out] at hf
                    rcases List.mem_append.1 hf with q | q
                    · exact HR.out.2 f q
                    · simp at q; rw [q]; exact HxF.out
                case measure => simp [intOf]; omega
              · rw [decide_eq_false hxF] at hC
                have HC := Lib.hid hC
                have HxF := Lib.hid hxF
                clear hC hxF
                go_wp2_with fail
                go_quiet ((go_at_call 113; exact Calls.quiet_of_same (HC.out _)))
                clear k1
                go_wp2
                go_ret
                exact .inr (.inr (.inr (.inl ⟨HU.out, HR0.out, by have := HNV.out; have := HFu.out; omega, fun h => HxF.out (h x HXm.out), rfl, ((HM.out.2.trans HR.out.1.fr (by simp)).drewN _)⟩)))
            · obtain rfl : k2 = n := by omega
              have htk : o.ids.take k2 = o.ids := List.take_of_length_le (by have := HI.out.2; omega)
              obtain ⟨hrn, hall⟩ := HR.out
              rw [htk] at hrn hall
              have hne : a0 ≠ kr := by have := HO.out; have := HM.out.1.2 kr HM.out.1.1; omega
              have hlt0 : a0 < w0.heap.size := Blk.lt HA.out
              obtain ⟨w5, hw5⟩ : ∃ w5, w5 = wr.setCell ⟨a0, 6, none⟩ (.slice pu k2 cu) := ⟨_, rfl⟩
              have hA5 : Blk w5 a0 #[.int .u32 o.id, .int .u32 o.num, .int .u32 o.t, .int .i32 o.px, .int .i32 o.py, .float .f64 o.sp, .slice pu k2 cu] 119 := by rw [hw5]; simpa using HAr.out.set 6 (.slice pu k2 cu)
              have F5 : Fr [a0] wr w5 := by rw [hw5]; exact (Fr.refl _ _).setCell _ _ (.inl (by simp))
              have hbm : RBook wr ([a0] ++ M) kr r0 r1 F V := (HBw.out).more [a0] (HM.out.2.trans hrn.fr (by simp)) (fun a ha => by simp at ha; subst ha; exact ⟨HO.out, Blk.lt HAr.out⟩)
              have hbm5 := hbm.step (M' := [a0] ++ M) F5 (fun x hx => .inl (by simp at hx; simp [hx])) (by simp; exact fun h => hne h.symm) (fun x hx => .inl hx) (fun x hx => Nat.lt_of_lt_of_le (hbm.mem.2 x hx) F5.size) hbm.mem.1
              have hlow : ∀ g, (Value.slice pu k2 cu).ownBlock = some g → g ∉ [a0] ++ M := fun g hg h => by
                have h1 := hrn.low g hg
                rcases List.mem_append.1 h with q | q
                · simp at q; omega
                · have := HM.out.1.2 g q; have := HO.out; omega
              have hids : RdF w5 (.slice pu k2 cu) k2 1 (u32v o.ids) := RdF.fr (hrn.rd (by decide) (by unfold maxLen; omega)) F5 (fun g hg h => hlow g hg (List.mem_append_left _ h))
              have hFl : F.length ≤ 1000 := by obtain ⟨_, _, _, h⟩ := hbm; exact h.lF
              have hVl : V.length ≤ 900 := by have := HNV.out; have := HFu.out; omega
              have hI1 : o.ids.length ≤ 1000 := by have := upI_small HU.out hall; omega
              have hI2 := HI.out.2
              have hcall := rput w5 ([a0] ++ M) kr r0 r1 F V ⟨o.id, o.num, o.t, o.px, o.py, o.sp, pu, k2, cu⟩ o hbm5 ((Firm.rdf hids hlow).mono fun W q => ⟨rfl, rfl, rfl, rfl, rfl, rfl, by unfold IdS; rw [← hI2]; exact q⟩) hI1 hVl
              have HY := Lib.hid (show Calls Tryd.prog 146 #[.pointer (some ⟨kr, 0, none⟩), .agg #[.int .u32 o.id, .int .u32 o.num, .int .u32 o.t, .int .i32 o.px, .int .i32 o.py, .float .f64 o.sp, .slice pu k2 cu]] w5 (RBPost w5 ([a0] ++ M) kr r0 r1 F (putV V o) (.tuple #[])) from hcall)
              have HE := Lib.hid (And.intro hA5 (And.intro F5 (And.intro hne (And.intro hall hrn.fr))))
              have b0 := hA5.at 0 (v := .int .u32 o.id) rfl
              have b1 := hA5.at 1 (v := .int .u32 o.num) rfl
              have b2 := hA5.at 2 (v := .int .u32 o.t) rfl
              have b3 := hA5.at 3 (v := .int .i32 o.px) rfl
              have b4 := hA5.at 4 (v := .int .i32 o.py) rfl
              have b5 := hA5.at 5 (v := .float .f64 o.sp) rfl
              have b6 := hA5.at 6 (v := .slice pu k2 cu) rfl
              have y6f := HAr.out.free 6
              clear hrn hall htk hne hlt0 hA5 F5 hbm hbm5 hlow hids hFl hVl hI1 hI2 hcall
              rw [hw5] at HY b0 b1 b2 b3 b4 b5 b6
              go_wp2_with fail
              (with_reducible refine (HY.out).mono ?_)
              rintro e w6 ⟨rfl, hb6, f6⟩
              have HZ6 := Lib.hid (And.intro hb6 f6)
              clear hb6 f6 b0 b1 b2 b3 b4 b5 b6 y6f y6
              go_wp2
              go_ret
              rw [← hw5] at HZ6
              obtain ⟨hA5, F5, hne, hall, hrf⟩ := HE.out
              have hsz : w.heap.size ≤ a0 := HO.out
              refine .inr (.inr (.inr (.inr ⟨HU.out, HR0.out, by have := HNV.out; have := HFu.out; omega, hall, rfl, HZ6.out.1.less [a0] (Fr.refl _ _) (by simp; exact fun h => hne h.symm) HM.out.1.1, ?_⟩)))
              exact (((HM.out.2.trans hrf (by simp)).mono (T := [kr]) (by simp)).trans F5 (fun s hs => .inr (by simp at hs; omega))).trans HZ6.out.2 (fun s hs => .inl hs)
end Go.Proofs.YtgoolkgjcmdilaaDoor
end
