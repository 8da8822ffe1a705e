/-
  Tb, part 5 of 36: the texts ObF.
-/
import Derived.Test.YtgoolkgjcmdilaaDoorTb4
section
namespace Go.Proofs.YtgoolkgjcmdilaaDoor
open Go.RowKit
set_option linter.unusedVariables false
set_option linter.unusedSimpArgs false
attribute [local go_sem] Oper.semAt_some
@[local go_sem] theorem run_store_float2 {P : Program} {w : World} {m : Mode} (a : Addr) (k : FloatKind) (b : Nat) : (store a (.float k b) m).run P w = stored P w a (.float k b) m := run_store P w a _ m rfl
/-- A list less one. -/
def outL (l : List Int) (f : Int) : List Int := l.filter (fun x => decide (x ≠ f))
theorem outL_len (l : List Int) (f : Int) : (outL l f).length ≤ l.length := List.length_filter_le _ _
theorem out_ids (w : World) (v : Value) (l : List Int) (f : Int) (hl : IdS w v l) (hs : l.length ≤ 100000) : Calls Tryd.prog 151 #[v, .int .u32 f] w (IdsPost w (outL l f)) := without_ids w v l f hl hs
set_option maxRecDepth 100000 in
theorem rturn_lost (w : World) (M : List Nat) (kr : Nat) (r0 r1 : Int) (F : List Int) (V : List VO) (id f : Int) (inn : Bool) (h : RBook w M kr r0 r1 F V) (hl : posV V id < 0 ∨ ¬ f ∈ F) :
    Calls Tryd.prog 125 #[.pointer (some ⟨kr, 0, none⟩), .int .u32 id, .int .u32 f, .bool inn] w fun e w' => e = .returned (.tuple #[.bool false, .int .i64 181]) ∧ Fr [] w w' := by
  have HF := Lib.hid (rfind w M kr r0 r1 F V id h)
  obtain ⟨vL, vF, L, h⟩ := h
  obtain ⟨p, cap, rfl⟩ := h.fen.out.form
  have d3 := h.hd.at 3 (v := .slice p F.length cap) rfl
  have HC := Lib.hid (has_ids w _ F f h.fen.out (by have := h.lF; omega))
  clear h
  generalize posV V id = z at *
  by_cases hz : z < 0
  · clear hl
    go_enter Tryd.func125, Tryd.ntmps125
    go_wp2_with fail
    (with_reducible refine (HF.out).mono ?_)
    rintro e w1 ⟨rfl, rfl⟩
    go_wp2
    go_ret2
    exact ⟨rfl, Fr.refl _ _⟩
  · have hf : ¬ f ∈ F := hl.resolve_left hz
    rw [decide_eq_false hf] at HC
    clear hl hf
    go_enter Tryd.func125, Tryd.ntmps125
    go_wp2_with fail
    (with_reducible refine (HF.out).mono ?_)
    rintro e w1 ⟨rfl, rfl⟩
    go_wp2_with fail
    (with_reducible refine (HC.out).mono ?_)
    rintro e w1 ⟨rfl, rfl⟩
    go_wp2
    go_ret2
    exact ⟨rfl, Fr.refl _ _⟩
set_option maxRecDepth 100000 in
theorem rturn_is (w : World) (M : List Nat) (kr : Nat) (r0 r1 : Int) (F : List Int) (V : List VO) (id f : Int) (inn : Bool) (r : Nat) (o : VO) (h : RBook w M kr r0 r1 F V) (hz : posV V id = r) (ho : V[r]? = some o) (hf : f ∈ F) (hin : decide (f ∈ o.ids) = inn) :
    Calls Tryd.prog 125 #[.pointer (some ⟨kr, 0, none⟩), .int .u32 id, .int .u32 f, .bool inn] w fun e w' => e = .returned (.tuple #[.bool false, .int .i64 0]) ∧ Fr [] w w' := by
  have HF := Lib.hid (rfind w M kr r0 r1 F V id h)
  obtain ⟨vL, vF, L, h⟩ := h
  obtain ⟨p, cap, rfl⟩ := h.fen.out.form
  obtain ⟨pL, cL, rfl⟩ := h.obs.out.form
  obtain ⟨n, hn⟩ : ∃ n, n = L.length := ⟨_, rfl⟩
  have hrn : r < n := by have := (List.getElem?_eq_some_iff.1 ho).1; have := h.len; omega
  obtain ⟨x, hx⟩ : ∃ x, L[r]? = some x := ⟨_, List.getElem?_eq_getElem (by omega)⟩
  have his := h.is r x o hx ho
  obtain ⟨g, o1, cp, hv, hc⟩ := ObS.at h.obs.out hx
  obtain rfl := (Value.slice.inj hv).1
  have d2 := h.hd.at 2 (v := .slice (some ⟨g, o1, none⟩) L.length cL) rfl
  rw [← hn] at d2
  have d3 := h.hd.at 3 (v := .slice p F.length cap) rfl
  have z0 := hc.c0
  have z1 := hc.c1
  have z2 := hc.c2
  have z3 := hc.c3
  have z4 := hc.c4
  have z5 := hc.c5
  have z6 := hc.c6
  have hC := has_ids w _ F f h.fen.out (by have := h.lF; omega)
  rw [decide_eq_true hf] at hC
  have HC := Lib.hid hC
  have F0 : Fr [] w (w.alloc (.cells #[.int .u32 x.id, .int .u32 x.num, .int .u32 x.t, .int .i32 x.px, .int .i32 x.py, .float .f64 x.sp, .slice x.p x.n x.c] 119)) := (Fr.refl _ _).alloc _
  have hD := has_ids (w.alloc (.cells #[.int .u32 x.id, .int .u32 x.num, .int .u32 x.t, .int .i32 x.px, .int .i32 x.py, .float .f64 x.sp, .slice x.p x.n x.c] 119)) x.v o.ids f (his.out.grow F0).2.2.2.2.2.2 (by have := h.lI r o ho; omega)
  rw [hin] at hD
  have HD := Lib.hid hD
  unfold RO.v at HD
  rw [hz] at HF
  have HX := Lib.hid F0
  clear h his hv hc hx ho hC hD F0 hz hf hin hn
  go_enter Tryd.func125, Tryd.ntmps125
  go_wp2_with fail
  (with_reducible refine (HF.out).mono ?_)
  rintro e w1 ⟨rfl, rfl⟩
  go_wp2_with fail
  (with_reducible refine (HC.out).mono ?_)
  rintro e w1 ⟨rfl, rfl⟩
  go_wp2_with fail
  (with_reducible refine (HD.out).mono ?_)
  rintro e w2 ⟨rfl, rfl⟩
  go_wp2
  go_ret2
  exact ⟨rfl, HX.out⟩
theorem rturn_in (w : World) (M : List Nat) (kr : Nat) (r0 r1 : Int) (F : List Int) (V : List VO) (id f : Int) (r : Nat) (o : VO) (h : RBook w M kr r0 r1 F V) (hz : posV V id = r) (ho : V[r]? = some o) (hf : f ∈ F) (hin : decide (f ∈ o.ids) = false) (hlen : (withL o.ids f).length ≤ 1000) :
    Calls Tryd.prog 125 #[.pointer (some ⟨kr, 0, none⟩), .int .u32 id, .int .u32 f, .bool true] w (RBPost w M kr r0 r1 F (V.set r { o with ids := withL o.ids f }) (.tuple #[.bool true, .int .i64 0])) := by
  have HF := Lib.hid (rfind w M kr r0 r1 F V id h)
  obtain ⟨vL, vF, L, h⟩ := h
  obtain ⟨p, cap, rfl⟩ := h.fen.out.form
  obtain ⟨pL, cL, rfl⟩ := h.obs.out.form
  obtain ⟨n, hn⟩ : ∃ n, n = L.length := ⟨_, rfl⟩
  have hrn : r < n := by have := (List.getElem?_eq_some_iff.1 ho).1; have := h.len; omega
  obtain ⟨x, hx⟩ : ∃ x, L[r]? = some x := ⟨_, List.getElem?_eq_getElem (by omega)⟩
  have his := h.is r x o hx ho
  obtain ⟨g, o1, cp, hv, hc⟩ := ObS.at h.obs.out hx
  obtain rfl := (Value.slice.inj hv).1
  have d2 := h.hd.at 2 (v := .slice (some ⟨g, o1, none⟩) L.length cL) rfl
  rw [← hn] at d2
  have d3 := h.hd.at 3 (v := .slice p F.length cap) rfl
  have z0 := hc.c0
  have z1 := hc.c1
  have z2 := hc.c2
  have z3 := hc.c3
  have z4 := hc.c4
  have z5 := hc.c5
  have z6 := hc.c6
  have hC := has_ids w _ F f h.fen.out (by have := h.lF; omega)
  rw [decide_eq_true hf] at hC
  have HC := Lib.hid hC
  have F0 : Fr [] w (w.alloc (.cells #[.int .u32 x.id, .int .u32 x.num, .int .u32 x.t, .int .i32 x.px, .int .i32 x.py, .float .f64 x.sp, .slice x.p x.n x.c] 119)) := (Fr.refl _ _).alloc _
  have hI := (his.out.grow F0).2.2.2.2.2.2
  have hD := has_ids (w.alloc (.cells #[.int .u32 x.id, .int .u32 x.num, .int .u32 x.t, .int .i32 x.px, .int .i32 x.py, .float .f64 x.sp, .slice x.p x.n x.c] 119)) x.v o.ids f hI (by have := h.lI r o ho; omega)
  rw [hin] at hD
  have HD := Lib.hid hD
  have HE := Lib.hid (with_ids (w.alloc (.cells #[.int .u32 x.id, .int .u32 x.num, .int .u32 x.t, .int .i32 x.px, .int .i32 x.py, .float .f64 x.sp, .slice x.p x.n x.c] 119)) x.v o.ids f hI (by have := h.lI r o ho; omega))
  unfold RO.v at HD HE
  rw [hz] at HF
  have hA := Blk.new w #[.int .u32 x.id, .int .u32 x.num, .int .u32 x.t, .int .i32 x.px, .int .i32 x.py, .float .f64 x.sp, .slice x.p x.n x.c] 119
  have HX := Lib.hid (And.intro F0 (And.intro h (And.intro his hA)))
  have HN := Lib.hid hlen
  clear h his hv hc hx ho hC hD F0 hz hf hin hn hI hA hlen
  go_enter Tryd.func125, Tryd.ntmps125
  go_wp2_with fail
  (with_reducible refine (HF.out).mono ?_)
  rintro e w1 ⟨rfl, rfl⟩
  go_wp2_with fail
  (with_reducible refine (HC.out).mono ?_)
  rintro e w1 ⟨rfl, rfl⟩
  go_wp2_with fail
  (with_reducible refine (HD.out).mono ?_)
  rintro e w2 ⟨rfl, rfl⟩
  go_wp2_with fail
  (with_reducible refine (HE.out).mono ?_)
  rintro e w3 ⟨v3, rfl, hv3⟩
  obtain ⟨p3, c3, rfl⟩ := hv3.form
  obtain ⟨F0, h, his, hA⟩ := HX.out
  have hA3 := hv3.fr.blk hA (by simp)
  have f03 := F0.trans hv3.fr (by simp)
  obtain ⟨a0, ha0⟩ : ∃ a0, a0 = w.heap.size := ⟨_, rfl⟩
  have hlow : w.heap.size ≤ a0 := by rw [ha0]; exact Nat.le_refl _
  have haM : ∀ m ∈ M, m < a0 := by rw [ha0]; exact h.low
  rw [← ha0] at hA3 ⊢
  have e6 := hA3.free 6
  have y0 := hA3.at 0 (v := .int .u32 x.id) rfl
  have y1 := hA3.at 1 (v := .int .u32 x.num) rfl
  have y2 := hA3.at 2 (v := .int .u32 x.t) rfl
  have y3 := hA3.at 3 (v := .int .i32 x.px) rfl
  have y4 := hA3.at 4 (v := .int .i32 x.py) rfl
  have y5 := hA3.at 5 (v := .float .f64 x.sp) rfl
  have y6 := hA3.at 6 (v := .slice x.p x.n x.c) rfl
  have F4 : Fr [a0] w3 (w3.setCell ⟨a0, 6, none⟩ (.slice p3 (withL o.ids f).length c3)) := (Fr.refl [a0] w3).setCell _ _ (.inl (by simp))
  have F04 : Fr [] w (w3.setCell ⟨a0, 6, none⟩ (.slice p3 (withL o.ids f).length c3)) := f03.setCell _ _ (.inr hlow)
  have hfar : ∀ g, (Value.slice p3 (withL o.ids f).length c3).ownBlock = some g → a0 < g := fun g hg => by have := hv3.low g hg; simp at this; omega
  have hid4 : IdS (w3.setCell ⟨a0, 6, none⟩ (.slice p3 (withL o.ids f).length c3)) (.slice p3 (withL o.ids f).length c3) (withL o.ids f) := RdF.fr (IdS.of_new hv3 (by have := HN.out; unfold maxLen; omega)) F4 (fun g hg hm => by have := hfar g hg; simp at hm; omega)
  have hi4 : Firm M (w3.setCell ⟨a0, 6, none⟩ (.slice p3 (withL o.ids f).length c3)) (fun W => IdS W (.slice p3 (withL o.ids f).length c3) (withL o.ids f)) := Firm.rdf hid4 (fun g hg hm => by have := hfar g hg; have := haM g hm; omega)
  have hs4 := his.grow F04
  have hcall := rwith _ M kr r0 r1 F V r { x with p := p3, n := (withL o.ids f).length, c := c3 } { o with ids := withL o.ids f } ⟨_, _, _, h.grow F04⟩ (fun W F => by
    have a := hs4 W F
    exact ⟨a.1, a.2.1, a.2.2.1, a.2.2.2.1, a.2.2.2.2.1, a.2.2.2.2.2.1, hi4 W F⟩) HN.out
  have HY := Lib.hid (show Calls Tryd.prog 147 #[.pointer (some ⟨kr, 0, none⟩), .int .i64 r, .agg #[.int .u32 x.id, .int .u32 x.num, .int .u32 x.t, .int .i32 x.px, .int .i32 x.py, .float .f64 x.sp, .slice p3 (withL o.ids f).length c3]] _ _ from hcall)
  have HZ := Lib.hid F04
  clear hv3 F0 h his hA hA3 f03 ha0 hlow haM F4 F04 hi4 hid4 hs4 hcall hfar HX HE HD HC HF d2 d3 z0 z1 z2 z3 z4 z5 z6
  go_wp2_with fail
  (with_reducible refine (HY.out).mono ?_)
  rintro e w5 ⟨rfl, hb5, f5⟩
  have HB5 := Lib.hid (And.intro hb5 ((HZ.out.mono (T := [kr]) (by simp)).trans f5 (fun s hs => .inl hs)))
  clear hb5 f5
  go_wp2
  go_ret2
  exact ⟨rfl, HB5.out.1, HB5.out.2⟩
theorem rturn_out (w : World) (M : List Nat) (kr : Nat) (r0 r1 : Int) (F : List Int) (V : List VO) (id f : Int) (r : Nat) (o : VO) (h : RBook w M kr r0 r1 F V) (hz : posV V id = r) (ho : V[r]? = some o) (hf : f ∈ F) (hin : decide (f ∈ o.ids) = true) (hlen : (outL o.ids f).length ≤ 1000) :
    Calls Tryd.prog 125 #[.pointer (some ⟨kr, 0, none⟩), .int .u32 id, .int .u32 f, .bool false] w (RBPost w M kr r0 r1 F (V.set r { o with ids := outL o.ids f }) (.tuple #[.bool true, .int .i64 0])) := by
  have HF := Lib.hid (rfind w M kr r0 r1 F V id h)
  obtain ⟨vL, vF, L, h⟩ := h
  obtain ⟨p, cap, rfl⟩ := h.fen.out.form
  obtain ⟨pL, cL, rfl⟩ := h.obs.out.form
  obtain ⟨n, hn⟩ : ∃ n, n = L.length := ⟨_, rfl⟩
  have hrn : r < n := by have := (List.getElem?_eq_some_iff.1 ho).1; have := h.len; omega
  obtain ⟨x, hx⟩ : ∃ x, L[r]? = some x := ⟨_, List.getElem?_eq_getElem (by omega)⟩
  have his := h.is r x o hx ho
  obtain ⟨g, o1, cp, hv, hc⟩ := ObS.at h.obs.out hx
  obtain rfl := (Value.slice.inj hv).1
  have d2 := h.hd.at 2 (v := .slice (some ⟨g, o1, none⟩) L.length cL) rfl
  rw [← hn] at d2
  have d3 := h.hd.at 3 (v := .slice p F.length cap) rfl
  have z0 := hc.c0
  have z1 := hc.c1
  have z2 := hc.c2
  have z3 := hc.c3
  have z4 := hc.c4
  have z5 := hc.c5
  have z6 := hc.c6
  have hC := has_ids w _ F f h.fen.out (by have := h.lF; omega)
  rw [decide_eq_true hf] at hC
  have HC := Lib.hid hC
  have F0 : Fr [] w (w.alloc (.cells #[.int .u32 x.id, .int .u32 x.num, .int .u32 x.t, .int .i32 x.px, .int .i32 x.py, .float .f64 x.sp, .slice x.p x.n x.c] 119)) := (Fr.refl _ _).alloc _
  have hI := (his.out.grow F0).2.2.2.2.2.2
  have hD := has_ids (w.alloc (.cells #[.int .u32 x.id, .int .u32 x.num, .int .u32 x.t, .int .i32 x.px, .int .i32 x.py, .float .f64 x.sp, .slice x.p x.n x.c] 119)) x.v o.ids f hI (by have := h.lI r o ho; omega)
  rw [hin] at hD
  have HD := Lib.hid hD
  have HE := Lib.hid (out_ids (w.alloc (.cells #[.int .u32 x.id, .int .u32 x.num, .int .u32 x.t, .int .i32 x.px, .int .i32 x.py, .float .f64 x.sp, .slice x.p x.n x.c] 119)) x.v o.ids f hI (by have := h.lI r o ho; omega))
  unfold RO.v at HD HE
  rw [hz] at HF
  have hA := Blk.new w #[.int .u32 x.id, .int .u32 x.num, .int .u32 x.t, .int .i32 x.px, .int .i32 x.py, .float .f64 x.sp, .slice x.p x.n x.c] 119
  have HX := Lib.hid (And.intro F0 (And.intro h (And.intro his hA)))
  have HN := Lib.hid hlen
  clear h his hv hc hx ho hC hD F0 hz hf hin hn hI hA hlen
  go_enter Tryd.func125, Tryd.ntmps125
  go_wp2_with fail
  (with_reducible refine (HF.out).mono ?_)
  rintro e w1 ⟨rfl, rfl⟩
  go_wp2_with fail
  (with_reducible refine (HC.out).mono ?_)
  rintro e w1 ⟨rfl, rfl⟩
  go_wp2_with fail
  (with_reducible refine (HD.out).mono ?_)
  rintro e w2 ⟨rfl, rfl⟩
  go_wp2_with fail
  (with_reducible refine (HE.out).mono ?_)
  rintro e w3 ⟨v3, rfl, hv3⟩
  obtain ⟨p3, c3, rfl⟩ := hv3.form
  obtain ⟨F0, h, his, hA⟩ := HX.out
  have hA3 := hv3.fr.blk hA (by simp)
  have f03 := F0.trans hv3.fr (by simp)
  obtain ⟨a0, ha0⟩ : ∃ a0, a0 = w.heap.size := ⟨_, rfl⟩
  have hlow : w.heap.size ≤ a0 := by rw [ha0]; exact Nat.le_refl _
  have haM : ∀ m ∈ M, m < a0 := by rw [ha0]; exact h.low
  rw [← ha0] at hA3 ⊢
  have e6 := hA3.free 6
  have y0 := hA3.at 0 (v := .int .u32 x.id) rfl
  have y1 := hA3.at 1 (v := .int .u32 x.num) rfl
  have y2 := hA3.at 2 (v := .int .u32 x.t) rfl
  have y3 := hA3.at 3 (v := .int .i32 x.px) rfl
  have y4 := hA3.at 4 (v := .int .i32 x.py) rfl
  have y5 := hA3.at 5 (v := .float .f64 x.sp) rfl
  have y6 := hA3.at 6 (v := .slice x.p x.n x.c) rfl
  have F4 : Fr [a0] w3 (w3.setCell ⟨a0, 6, none⟩ (.slice p3 (outL o.ids f).length c3)) := (Fr.refl [a0] w3).setCell _ _ (.inl (by simp))
  have F04 : Fr [] w (w3.setCell ⟨a0, 6, none⟩ (.slice p3 (outL o.ids f).length c3)) := f03.setCell _ _ (.inr hlow)
  have hfar : ∀ g, (Value.slice p3 (outL o.ids f).length c3).ownBlock = some g → a0 < g := fun g hg => by have := hv3.low g hg; simp at this; omega
  have hid4 : IdS (w3.setCell ⟨a0, 6, none⟩ (.slice p3 (outL o.ids f).length c3)) (.slice p3 (outL o.ids f).length c3) (outL o.ids f) := RdF.fr (IdS.of_new hv3 (by have := HN.out; unfold maxLen; omega)) F4 (fun g hg hm => by have := hfar g hg; simp at hm; omega)
  have hi4 : Firm M (w3.setCell ⟨a0, 6, none⟩ (.slice p3 (outL o.ids f).length c3)) (fun W => IdS W (.slice p3 (outL o.ids f).length c3) (outL o.ids f)) := Firm.rdf hid4 (fun g hg hm => by have := hfar g hg; have := haM g hm; omega)
  have hs4 := his.grow F04
  have hcall := rwith _ M kr r0 r1 F V r { x with p := p3, n := (outL o.ids f).length, c := c3 } { o with ids := outL o.ids f } ⟨_, _, _, h.grow F04⟩ (fun W F => by
    have a := hs4 W F
    exact ⟨a.1, a.2.1, a.2.2.1, a.2.2.2.1, a.2.2.2.2.1, a.2.2.2.2.2.1, hi4 W F⟩) HN.out
  have HY := Lib.hid (show Calls Tryd.prog 147 #[.pointer (some ⟨kr, 0, none⟩), .int .i64 r, .agg #[.int .u32 x.id, .int .u32 x.num, .int .u32 x.t, .int .i32 x.px, .int .i32 x.py, .float .f64 x.sp, .slice p3 (outL o.ids f).length c3]] _ _ from hcall)
  have HZ := Lib.hid F04
  clear hv3 F0 h his hA hA3 f03 ha0 hlow haM F4 F04 hi4 hid4 hs4 hcall hfar HX HE HD HC HF d2 d3 z0 z1 z2 z3 z4 z5 z6
  go_wp2_with fail
  (with_reducible refine (HY.out).mono ?_)
  rintro e w5 ⟨rfl, hb5, f5⟩
  have HB5 := Lib.hid (And.intro hb5 ((HZ.out.mono (T := [kr]) (by simp)).trans f5 (fun s hs => .inl hs)))
  clear hb5 f5
  go_wp2
  go_ret2
  exact ⟨rfl, HB5.out.1, HB5.out.2⟩
def dropO (f : Int) (o : VO) : VO := { o with ids := outL o.ids f }
def dropV (V : List VO) (f : Int) (k : Nat) : List VO := (V.take k).map (dropO f) ++ V.drop k
theorem dropV_len (V : List VO) (f : Int) (k : Nat) : (dropV V f k).length = V.length := by unfold dropV; simp; omega
theorem dropV_at {V : List VO} {f : Int} {k : Nat} {o : VO} (h : V[k]? = some o) : (dropV V f k)[k]? = some o ∧ (dropV V f k).set k (dropO f o) = dropV V f (k + 1) := by
  have hl : ((V.take k).map (dropO f)).length = k := by rw [List.length_map, List.length_take]; have := (List.getElem?_eq_some_iff.1 h).1; omega
  have hd : V.drop k = o :: V.drop (k + 1) := by
    obtain ⟨h1, h2⟩ := List.getElem?_eq_some_iff.1 h
    rw [List.drop_eq_getElem_cons h1, h2]
  unfold dropV
  constructor
  · rw [List.getElem?_append_right (by omega), hl, Nat.sub_self, hd]; rfl
  · rw [List.set_append_right _ _ (by omega), hl, Nat.sub_self, hd, List.set_cons_zero, take_snoc h, List.map_append, List.map_singleton, List.append_assoc]
    rfl
theorem dropV_all (V : List VO) (f : Int) : dropV V f V.length = V.map (dropO f) := by unfold dropV; simp
set_option maxRecDepth 100000 in
set_option maxHeartbeats 800000 in
theorem rdropF (w : World) (M : List Nat) (kr : Nat) (r0 r1 : Int) (F : List Int) (V : List VO) (f : Int) (h : RBook w M kr r0 r1 F V) :
    Calls Tryd.prog 123 #[.pointer (some ⟨kr, 0, none⟩), .int .u32 f] w (RBPost w M kr r0 r1 (outL F f) (V.map (dropO f)) (.bool (decide (f ∈ F)))) := by
  obtain ⟨vL, vF, L, h⟩ := h
  obtain ⟨p, cap, rfl⟩ := h.fen.out.form
  have d3 := h.hd.at 3 (v := .slice p F.length cap) rfl
  have HC := Lib.hid (has_ids w _ F f h.fen.out (by have := h.lF; omega))
  have HE := Lib.hid (out_ids w _ F f h.fen.out (by have := h.lF; omega))
  have HH := Lib.hid h
  have HN := Lib.hid (show (outL F f).length ≤ 1000 by have := outL_len F f; have := h.lF; omega)
  obtain ⟨n, hn⟩ : ∃ n, n = V.length := ⟨_, rfl⟩
  have hs : n ≤ 1000 := by have := h.lV; omega
  have HV := Lib.hid hn
  clear h hn
  go_enter Tryd.func123, Tryd.ntmps123
  go_wp2_with fail
  (with_reducible refine (HC.out).mono ?_)
  rintro e w1 ⟨rfl, rfl⟩
  go_wp2_with fail
  (with_reducible refine (HE.out).mono ?_)
  rintro e w2 ⟨v, rfl, hv⟩
  obtain ⟨pv, cv, rfl⟩ := hv.form
  have e3 := (hv.fr.blk HH.out.hd (by simp)).free 3
  have d3' := (hv.fr.blk HH.out.hd (by simp)).at 3 (v := .slice p F.length cap) rfl
  have HB := Lib.hid (RBookL.fences HH.out _ hv HN.out)
  clear hv d3 HC HE HH
  go_wp2_with fail
  obtain ⟨w3, hw3⟩ : ∃ w3, w2.setCell ⟨kr, 3, none⟩ (.slice pv (outL F f).length cv) = w3 := ⟨_, rfl⟩
  rw [hw3] at HB ⊢
  clear hw3 d3' e3
  go_loopw [6, 7] (fun i u wr => ∃ k : Nat, k ≤ n ∧ i = .int .i64 k ∧ RBook wr M kr r0 r1 (outL F f) (dropV V f k) ∧ Fr [kr] w wr) (fun i _ _ => n - (intOf i).toNat)
  case atStart => exact ⟨0, by omega, rfl, ⟨_, _, _, HB.out.1⟩, HB.out.2⟩
  case round =>
    obtain ⟨k, hk, rfl, h, hfr⟩ := hrel
    obtain ⟨vL', vF', L', h⟩ := h
    obtain ⟨pL, cL, rfl⟩ := h.obs.out.form
    have hLn : L'.length = n := by rw [h.len, dropV_len]; exact HV.out.symm
    have d2 := h.hd.at 2 (v := .slice pL L'.length cL) rfl
    rw [hLn] at d2
    have HG := Lib.hid (And.intro h hfr)
    by_cases hlt : k < n
    · obtain ⟨o, ho⟩ : ∃ o, V[k]? = some o := ⟨_, List.getElem?_eq_getElem (by have := HV.out; omega)⟩
      obtain ⟨ho1, ho2⟩ := dropV_at (f := f) ho
      obtain ⟨x, hx⟩ : ∃ x, L'[k]? = some x := ⟨_, List.getElem?_eq_getElem (by omega)⟩
      have his := h.is k x o hx ho1
      obtain ⟨g, o1, cp, hv, hc⟩ := ObS.at h.obs.out hx
      obtain rfl := (Value.slice.inj hv).1
      have z0 := hc.c0
      have z1 := hc.c1
      have z2 := hc.c2
      have z3 := hc.c3
      have z4 := hc.c4
      have z5 := hc.c5
      have z6 := hc.c6
      have F0 : Fr [] wr (wr.alloc (.cells #[.int .u32 x.id, .int .u32 x.num, .int .u32 x.t, .int .i32 x.px, .int .i32 x.py, .float .f64 x.sp, .slice x.p x.n x.c] 119)) := (Fr.refl _ _).alloc _
      have hI := (his.out.grow F0).2.2.2.2.2.2
      have hol := h.lI k o ho1
      have HE := Lib.hid (out_ids (wr.alloc (.cells #[.int .u32 x.id, .int .u32 x.num, .int .u32 x.t, .int .i32 x.px, .int .i32 x.py, .float .f64 x.sp, .slice x.p x.n x.c] 119)) x.v o.ids f hI (by omega))
      have HM := Lib.hid (show (outL o.ids f).length ≤ 1000 by have := outL_len o.ids f; omega)
      unfold RO.v at HE
      have hA := Blk.new wr #[.int .u32 x.id, .int .u32 x.num, .int .u32 x.t, .int .i32 x.px, .int .i32 x.py, .float .f64 x.sp, .slice x.p x.n x.c] 119
      have HX := Lib.hid (And.intro F0 (And.intro h (And.intro his (And.intro hA ho2))))
      clear h his hv hc hx ho ho1 ho2 F0 hI hA hol hfr hLn
      go_wp2_with fail
      (with_reducible refine (HE.out).mono ?_)
      rintro e w4 ⟨v3, rfl, hv3⟩
      obtain ⟨p3, c3, rfl⟩ := hv3.form
      obtain ⟨F0, h, his, hA, ho2⟩ := HX.out
      have hA3 := hv3.fr.blk hA (by simp)
      have f03 := F0.trans hv3.fr (by simp)
      obtain ⟨a0, ha0⟩ : ∃ a0, a0 = wr.heap.size := ⟨_, rfl⟩
      have hlow : wr.heap.size ≤ a0 := by rw [ha0]; exact Nat.le_refl _
      have haM : ∀ m ∈ M, m < a0 := by rw [ha0]; exact h.low
      rw [← ha0] at hA3 ⊢
      have e6 := hA3.free 6
      have y0 := hA3.at 0 (v := .int .u32 x.id) rfl
      have y1 := hA3.at 1 (v := .int .u32 x.num) rfl
      have y2 := hA3.at 2 (v := .int .u32 x.t) rfl
      have y3 := hA3.at 3 (v := .int .i32 x.px) rfl
      have y4 := hA3.at 4 (v := .int .i32 x.py) rfl
      have y5 := hA3.at 5 (v := .float .f64 x.sp) rfl
      have y6 := hA3.at 6 (v := .slice x.p x.n x.c) rfl
      have F4 : Fr [a0] w4 (w4.setCell ⟨a0, 6, none⟩ (.slice p3 (outL o.ids f).length c3)) := (Fr.refl [a0] w4).setCell _ _ (.inl (by simp))
      have F04 : Fr [] wr (w4.setCell ⟨a0, 6, none⟩ (.slice p3 (outL o.ids f).length c3)) := f03.setCell _ _ (.inr hlow)
      have hfar : ∀ g, (Value.slice p3 (outL o.ids f).length c3).ownBlock = some g → a0 < g := fun g hg => by have := hv3.low g hg; simp at this; omega
      have hid4 : IdS (w4.setCell ⟨a0, 6, none⟩ (.slice p3 (outL o.ids f).length c3)) (.slice p3 (outL o.ids f).length c3) (outL o.ids f) := RdF.fr (IdS.of_new hv3 (by have := HM.out; unfold maxLen; omega)) F4 (fun g hg hm => by have := hfar g hg; simp at hm; omega)
      have hi4 : Firm M (w4.setCell ⟨a0, 6, none⟩ (.slice p3 (outL o.ids f).length c3)) (fun W => IdS W (.slice p3 (outL o.ids f).length c3) (outL o.ids f)) := Firm.rdf hid4 (fun g hg hm => by have := hfar g hg; have := haM g hm; omega)
      have hs4 := his.grow F04
      have hcall := rwith _ M kr r0 r1 (outL F f) (dropV V f k) k { x with p := p3, n := (outL o.ids f).length, c := c3 } (dropO f o) ⟨_, _, _, h.grow F04⟩ (fun W F => by
        have a := hs4 W F
        exact ⟨a.1, a.2.1, a.2.2.1, a.2.2.2.1, a.2.2.2.2.1, a.2.2.2.2.2.1, hi4 W F⟩) HM.out
      rw [ho2] at hcall
      have HY := Lib.hid (show Calls Tryd.prog 147 #[.pointer (some ⟨kr, 0, none⟩), .int .i64 k, .agg #[.int .u32 x.id, .int .u32 x.num, .int .u32 x.t, .int .i32 x.px, .int .i32 x.py, .float .f64 x.sp, .slice p3 (outL o.ids f).length c3]] _ _ from hcall)
      have HZ := Lib.hid F04
      clear hv3 F0 h his hA hA3 f03 ha0 hlow haM F4 F04 hi4 hid4 hs4 hcall hfar HX HE d2 z0 z1 z2 z3 z4 z5 z6 ho2
      go_wp2_with fail
      (with_reducible refine (HY.out).mono ?_)
      rintro e w5 ⟨rfl, hb5, f5⟩
      have HB5 := Lib.hid (And.intro hb5 ((HG.out.2.trans HZ.out (by simp)).trans f5 (fun s hs => .inl hs)))
      clear hb5 f5
      go_wp2
      go_roundw
      case rel => exact ⟨k + 1, by omega, by go_num, HB5.out.1, HB5.out.2⟩
      case measure => simp [intOf]; omega
    · have hkn : k = n := by omega
      subst hkn
      clear h hfr
      go_wp2
      go_ret
      refine ⟨rfl, ?_, HG.out.2⟩
      have := HG.out.1
      rw [HV.out, dropV_all] at this
      exact ⟨_, _, _, this⟩
end Go.Proofs.YtgoolkgjcmdilaaDoor
end
