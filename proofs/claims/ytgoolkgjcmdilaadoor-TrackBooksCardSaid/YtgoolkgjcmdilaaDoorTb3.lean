/-
  Tb, part 3 of 36: the texts ObA ObB ObC.
-/
import Derived.Test.YtgoolkgjcmdilaaDoorTb2
section
namespace Go.Proofs.YtgoolkgjcmdilaaDoor
open Go.RowKit
set_option linter.unusedVariables false
set_option linter.unusedSimpArgs false
attribute [local go_sem] Oper.semAt_some
/-- An object as it lies in a list: its numbers, and the slice of its fences. -/
structure RO where
  id : Int
  num : Int
  t : Int
  px : Int
  py : Int
  sp : Nat
  p : Option Addr
  n : Nat
  c : Nat
def RO.v (x : RO) : Value := .slice x.p x.n x.c
def encO (x : RO) : List Value := [.int .u32 x.id, .int .u32 x.num, .int .u32 x.t, .int .i32 x.px, .int .i32 x.py, .float .f64 x.sp, .slice x.p x.n x.c]
theorem encO_len (x : RO) : (encO x).length = 7 := rfl
theorem encO_one (x : RO) : ∀ u ∈ encO x, u.oneCell' = true := by
  intro u hu
  simp [encO] at hu
  rcases hu with rfl | rfl | rfl | rfl | rfl | rfl | rfl <;> rfl
def encs (l : List RO) : List Value := l.flatMap encO
theorem encs_app (l m : List RO) : encs (l ++ m) = encs l ++ encs m := by simp [encs]
/-- A slice of objects. -/
def ObS (w : World) (v : Value) (l : List RO) : Prop := RdF w v l.length 7 (encs l)
theorem ObS.grow {w w' : World} {v : Value} {l : List RO} (h : ObS w v l) (f : Fr [] w w') : ObS w' v l := RdF.grow h f
theorem ObS.form {w : World} {v : Value} {l : List RO} (h : ObS w v l) : ∃ p cap, v = .slice p l.length cap := by
  obtain ⟨p, cap, hv, _⟩ := RdF.form h
  exact ⟨p, cap, hv⟩
/-- The cells of one. -/
structure ObCells (w : World) (g a : Nat) (x : RO) : Prop where
  c0 : w.cell? ⟨g, a, none⟩ = some (.int .u32 x.id)
  c1 : w.cell? ⟨g, a + 1, none⟩ = some (.int .u32 x.num)
  c2 : w.cell? ⟨g, a + 2, none⟩ = some (.int .u32 x.t)
  c3 : w.cell? ⟨g, a + 3, none⟩ = some (.int .i32 x.px)
  c4 : w.cell? ⟨g, a + 4, none⟩ = some (.int .i32 x.py)
  c5 : w.cell? ⟨g, a + 5, none⟩ = some (.float .f64 x.sp)
  c6 : w.cell? ⟨g, a + 6, none⟩ = some (.slice x.p x.n x.c)
theorem ObCells.lt {w : World} {g a : Nat} {x : RO} (h : ObCells w g a x) : g < w.heap.size := World.block_lt_of_cell? _ _ h.c0
theorem ObCells.fr {S : List Nat} {w w' : World} {g a : Nat} {x : RO} (h : ObCells w g a x) (f : Fr S w w') (hg : g ∉ S) : ObCells w' g a x :=
  have e : ∀ k, w'.cell? ⟨g, k, none⟩ = w.cell? ⟨g, k, none⟩ := fun k => f.cell (a := ⟨g, k, none⟩) h.lt hg
  ⟨(e _).trans h.c0, (e _).trans h.c1, (e _).trans h.c2, (e _).trans h.c3, (e _).trans h.c4, (e _).trans h.c5, (e _).trans h.c6⟩
theorem ObCells.grow {w w' : World} {g a : Nat} {x : RO} (h : ObCells w g a x) (f : Fr [] w w') : ObCells w' g a x := h.fr f (by simp)
theorem ObS.at {w : World} {v : Value} {l : List RO} (h : ObS w v l) {k : Nat} {x : RO} (hk : l[k]? = some x) : ∃ g o cap, v = .slice (some ⟨g, o, none⟩) l.length cap ∧ ObCells w g (o + k * 7) x := by
  obtain ⟨g, o, cap, hv, _, _, hc⟩ := RdF.at encO encO_len h hk
  refine ⟨g, o, cap, hv, ?_, ?_, ?_, ?_, ?_, ?_, ?_⟩
  · exact hc 0 _ rfl
  all_goals rw [Nat.add_assoc]
  · exact hc 1 _ rfl
  · exact hc 2 _ rfl
  · exact hc 3 _ rfl
  · exact hc 4 _ rfl
  · exact hc 5 _ rfl
  · exact hc 6 _ rfl
theorem infoOb : (Tryd.prog.info? 119).map (fun i => (i.zero, i.size, i.bytes)) = some (some (.agg #[.int .u32 0, .int .u32 0, .int .u32 0, .int .i32 0, .int .i32 0, .float .f64 0, .slice none 0 0]), 7, 56) := by kernel_rfl
theorem RowNew.ob1 {w w1 w2 : World} {v v2 : Value} {L : List RO} {x : RO} {o : Obj} (h : RowNew w 119 7 w1 v L.length (encs L)) (ha : Appended (w1.alloc o) 119 7 v (L.length + 1) (encs L ++ encO x) v2 w2) : RowNew w 119 7 w2 v2 (L ++ [x]).length (encs (L ++ [x])) := by
  have := (h.grow ((Fr.refl [] w1).alloc o)).app ha
  rw [List.length_append, List.length_singleton, encs_app]
  have e : encs [x] = encO x := by simp [encs]
  rw [e]
  exact this
theorem ObS.of_new {w w1 : World} {v : Value} {l : List RO} (h : RowNew w 119 7 w1 v l.length (encs l)) (hn : l.length ≤ maxLen) : ObS w1 v l := h.rd (by decide) hn
def RfAt (w : World) (k : Nat) (r0 r1 : Int) (vL vF : Value) : Prop := Blk w k #[.int .i64 r0, .int .i64 r1, vL, vF] 127
def findFrom (id : Int) : List RO → Int → Int
  | [], _ => -1
  | x :: l, k => if x.id = id then k else findFrom id l (k + 1)
/-- Where an object stands; -1: nowhere. -/
def findZ (l : List RO) (id : Int) : Int := findFrom id l 0
set_option maxRecDepth 100000 in
theorem find_ob (w : World) (kr : Nat) (r0 r1 : Int) (vL vF : Value) (l : List RO) (id : Int) (h : RfAt w kr r0 r1 vL vF) (hl : ObS w vL l) (hs : l.length ≤ 100000) :
    Calls Tryd.prog 112 #[.pointer (some ⟨kr, 0, none⟩), .int .u32 id] w fun e w' => e = .returned (.int .i64 (findZ l id)) ∧ w = w' := by
  obtain ⟨n, hn⟩ : ∃ n, n = l.length := ⟨_, rfl⟩
  obtain ⟨p, cap, rfl⟩ := hl.form
  have HL := Lib.hid (And.intro hl hn)
  rw [← hn] at hs h
  have d2 := h.at 2 (v := .slice p n cap) rfl
  clear hl hn h
  go_enter Tryd.func112, Tryd.ntmps112
  go_wp2
  go_loop [5] (fun i => ∃ k : Nat, k ≤ n ∧ i = .int .i64 k ∧ findZ l id = findFrom id (l.drop k) k) (fun i => n - (intOf i).toNat)
  case atStart => exact ⟨0, by omega, rfl, rfl⟩
  case round =>
    obtain ⟨k, hk, rfl, hno⟩ := hrel
    have HN := Lib.hid hno
    clear hno
    by_cases hlt : k < n
    · obtain ⟨x, hx⟩ : ∃ x, l[k]? = some x := ⟨_, List.getElem?_eq_getElem (by have := HL.out.2; omega)⟩
      obtain ⟨g, o, cp, hv, hc⟩ := ObS.at HL.out.1 hx
      obtain rfl := (Value.slice.inj hv).1
      clear hv
      have c0 := hc.c0
      have hd : l.drop k = x :: l.drop (k + 1) := by
        obtain ⟨h1, h2⟩ := List.getElem?_eq_some_iff.1 hx
        rw [List.drop_eq_getElem_cons h1, h2]
      have hf := HN.out
      rw [hd] at hf
      unfold findFrom at hf
      clear hc hx hd
      by_cases hxf : x.id = id
      · rw [if_pos hxf] at hf
        have HF := Lib.hid hf
        have h1 : (x.id == id) = true := beq_iff_eq.2 hxf
        clear hf hxf
        go_wp2
        go_ret
        exact ⟨(congrArg (fun z => Ending.returned (.int .i64 z)) HF.out.symm), rfl⟩
      · rw [if_neg hxf] at hf
        have HF := Lib.hid hf
        have h1 : (x.id == id) = false := beq_eq_false_iff_ne.2 hxf
        clear hf hxf
        go_wp2
        go_round
        case rel => exact ⟨k + 1, by omega, by go_num, by rw [HF.out]; rfl⟩
        case measure => simp [intOf]; omega
    · have hf := HN.out
      rw [List.drop_of_length_le (by have := HL.out.2; omega)] at hf
      have HF := Lib.hid hf
      clear hf
      go_wp2
      go_ret
      exact ⟨(congrArg (fun z => Ending.returned (.int .i64 z)) HF.out.symm), rfl⟩
end Go.Proofs.YtgoolkgjcmdilaaDoor
end
section
namespace Go.Proofs.YtgoolkgjcmdilaaDoor
open Go.RowKit
set_option linter.unusedVariables false
set_option linter.unusedSimpArgs false
attribute [local go_sem] Oper.semAt_some
/-- What is left of the book when another list has been laid in. -/
def ObsPost (w : World) (kr : Nat) (r0 r1 : Int) (vF : Value) (L : List RO) (a : Value) (e : Ending) (w' : World) : Prop :=
  e = .returned a ∧ ∃ vL, RfAt w' kr r0 r1 vL vF ∧ ObS w' vL L ∧ (∀ g, vL.ownBlock = some g → w.heap.size ≤ g) ∧ Fr [kr] w w'
theorem obs_store {w w1 : World} {kr : Nat} {r0 r1 : Int} {vL vL' vF : Value} {L : List RO} (h : RfAt w kr r0 r1 vL vF) (hn : RowNew w 119 7 w1 vL' L.length (encs L)) (hl : L.length ≤ maxLen) :
    RfAt (w1.setCell ⟨kr, 2, none⟩ vL') kr r0 r1 vL' vF ∧ ObS (w1.setCell ⟨kr, 2, none⟩ vL') vL' L ∧ Fr [kr] w (w1.setCell ⟨kr, 2, none⟩ vL') := by
  have hb := hn.fr.blk h (by simp)
  have f2 : Fr [kr] w1 (w1.setCell ⟨kr, 2, none⟩ vL') := (Fr.refl [kr] w1).setCell _ _ (.inl (by simp))
  refine ⟨hb.set 2 vL', RdF.fr (hn.rd (by decide) hl) f2 (fun g hg hm => ?_), (hn.fr.mono (by simp)).trans f2 (fun s hs => .inl hs)⟩
  have h1 := hn.low g hg
  have h2 := Blk.lt h
  simp at hm
  omega
/-- One more object: what is there, and whether the new one is. -/
def ost (o : RO) (s : List RO × Bool) (x : RO) : List RO × Bool := if s.2 = false ∧ o.id < x.id then (s.1 ++ [o] ++ [x], true) else (s.1 ++ [x], s.2)
def ostTo (o : RO) (l : List RO) : List RO × Bool := l.foldl (ost o) ([], false)
def putL (l : List RO) (o : RO) : List RO := if (ostTo o l).2 = true then (ostTo o l).1 else (ostTo o l).1 ++ [o]
theorem ostTo_snoc (o : RO) {l : List RO} {k : Nat} {x : RO} (h : l[k]? = some x) : ostTo o (l.take (k + 1)) = ost o (ostTo o (l.take k)) x := by
  unfold ostTo
  rw [take_snoc h, List.foldl_append]
  rfl
theorem ostTo_len (o : RO) (l : List RO) : (ostTo o l).1.length ≤ l.length + 1 := by
  suffices h : ∀ (l : List RO) (s : List RO × Bool), (l.foldl (ost o) s).1.length ≤ s.1.length + l.length + (if s.2 = true then 0 else 1) by
    have := h l ([], false)
    simp at this
    unfold ostTo; omega
  intro l
  induction l with
  | nil => intro s; simp
  | cons x l ih =>
    intro s
    rw [List.foldl_cons]
    have := ih (ost o s x)
    unfold ost at this ⊢
    by_cases hc : s.2 = false ∧ o.id < x.id
    · rw [if_pos hc] at this ⊢
      simp only [List.length_append, List.length_cons, List.length_nil] at this ⊢
      rw [hc.1]; simp at this ⊢; omega
    · rw [if_neg hc] at this ⊢
      simp only [List.length_append, List.length_cons, List.length_nil] at this ⊢
      omega
theorem putL_len (l : List RO) (o : RO) : (putL l o).length ≤ l.length + 2 := by
  have := ostTo_len o l
  unfold putL
  split
  · omega
  · rw [List.length_append, List.length_singleton]; omega
set_option maxRecDepth 100000 in
set_option maxHeartbeats 800000 in
theorem put_ob (w : World) (kr : Nat) (r0 r1 : Int) (vL vF : Value) (l : List RO) (x0 : RO) (h : RfAt w kr r0 r1 vL vF) (hl : ObS w vL l) (hs : l.length ≤ 100000) :
    Calls Tryd.prog 146 #[.pointer (some ⟨kr, 0, none⟩), .agg #[.int .u32 x0.id, .int .u32 x0.num, .int .u32 x0.t, .int .i32 x0.px, .int .i32 x0.py, .float .f64 x0.sp, .slice x0.p x0.n x0.c]] w (ObsPost w kr r0 r1 vF (putL l x0) (.tuple #[])) := by
  obtain ⟨n, hn⟩ : ∃ n, n = l.length := ⟨_, rfl⟩
  obtain ⟨p, cap, rfl⟩ := hl.form
  have F0 : Fr [] w (w.alloc (.cells #[.int .u32 x0.id, .int .u32 x0.num, .int .u32 x0.t, .int .i32 x0.px, .int .i32 x0.py, .float .f64 x0.sp, .slice x0.p x0.n x0.c] 119)) := (Fr.refl _ _).alloc _
  have hA := Blk.new w #[.int .u32 x0.id, .int .u32 x0.num, .int .u32 x0.t, .int .i32 x0.px, .int .i32 x0.py, .float .f64 x0.sp, .slice x0.p x0.n x0.c] 119
  have HB := Lib.hid (show ∀ W, Fr [] (w.alloc (.cells #[.int .u32 x0.id, .int .u32 x0.num, .int .u32 x0.t, .int .i32 x0.px, .int .i32 x0.py, .float .f64 x0.sp, .slice x0.p x0.n x0.c] 119)) W → W.cell? ⟨kr, 2, none⟩ = some (.slice p n cap) from fun W f => by rw [hn]; exact ((F0.trans f (by simp)).blk h (by simp)).at 2 rfl)
  have HX := Lib.hid (show ∀ W, Fr [] (w.alloc (.cells #[.int .u32 x0.id, .int .u32 x0.num, .int .u32 x0.t, .int .i32 x0.px, .int .i32 x0.py, .float .f64 x0.sp, .slice x0.p x0.n x0.c] 119)) W → ObCells W w.heap.size 0 x0 from fun W f => by
    have hb := f.blk hA (by simp)
    exact ⟨hb.at 0 rfl, hb.at 1 rfl, hb.at 2 rfl, hb.at 3 rfl, hb.at 4 rfl, hb.at 5 rfl, hb.at 6 rfl⟩)
  have HL := Lib.hid (And.intro (hl.grow F0) (And.intro hn (And.intro h F0)))
  rw [← hn] at hs
  clear hl hn h hA
  go_enter Tryd.func146, Tryd.ntmps146
  go_wp2
  obtain ⟨w0, hw0⟩ : ∃ w0, w.alloc (.cells #[.int .u32 x0.id, .int .u32 x0.num, .int .u32 x0.t, .int .i32 x0.px, .int .i32 x0.py, .float .f64 x0.sp, .slice x0.p x0.n x0.c] 119) = w0 := ⟨_, rfl⟩
  obtain ⟨a0, ha0⟩ : ∃ a0, a0 = w.heap.size := ⟨_, rfl⟩
  rw [hw0] at HB HX HL ⊢
  rw [← ha0] at HX ⊢
  clear hw0 ha0 F0
  go_loopw [4, 5, 6] (fun u d i wr => ∃ k : Nat, k ≤ n ∧ i = .int .i64 k ∧ d = .bool (ostTo x0 (l.take k)).2 ∧ RowNew w0 119 7 wr u (ostTo x0 (l.take k)).1.length (encs (ostTo x0 (l.take k)).1)) (fun _ _ i _ => n - (intOf i).toNat)
  case atStart => exact ⟨0, by omega, rfl, rfl, RowNew.start _ _ _⟩
  case round =>
    obtain ⟨k, hk, rfl, rfl, hr⟩ := hrel
    obtain ⟨pu, cu, rfl⟩ := hr.form
    have hlen := ostTo_len x0 (l.take k)
    rw [List.length_take] at hlen
    replace hlen : (ostTo x0 (l.take k)).1.length ≤ 100002 := by omega
    have HR := Lib.hid (And.intro hr hlen)
    clear hr hlen
    have d2 := HB.out _ HR.out.1.fr
    have hx0 := HX.out _ HR.out.1.fr
    have y0 := hx0.c0
    have y1 := hx0.c1
    have y2 := hx0.c2
    have y3 := hx0.c3
    have y4 := hx0.c4
    have y5 := hx0.c5
    have y6 := hx0.c6
    clear hx0
    by_cases hlt : k < n
    · obtain ⟨x, hx⟩ : ∃ x, l[k]? = some x := ⟨_, List.getElem?_eq_getElem (by have := HL.out.2.1; omega)⟩
      obtain ⟨g, o, cp, hv, hc⟩ := ObS.at HL.out.1 hx
      obtain rfl := (Value.slice.inj hv).1
      have HC := Lib.hid hc
      have hcr := hc.grow HR.out.1.fr
      have z0 := hcr.c0
      have z1 := hcr.c1
      have z2 := hcr.c2
      have z3 := hcr.c3
      have z4 := hcr.c4
      have z5 := hcr.c5
      have z6 := hcr.c6
      clear hv hc hcr
      have hsn := ostTo_snoc x0 hx
      generalize hst : ostTo x0 (l.take k) = st at *
      obtain ⟨q, d⟩ := st
      dsimp only at HR hsn ⊢
      clear hst hx
      cases d with
      | true =>
        have hsn : ostTo x0 (l.take (k + 1)) = (q ++ [x], true) := by rw [hsn]; unfold ost; rw [if_neg (by simp)]
        have HW := Lib.hid hsn
        clear hsn
        go_wp2_with fail
        go_quiet (fail)
        rename Nat => nq
        obtain ⟨wq, hwq⟩ : ∃ wq, wq = wr.drewN nq := ⟨_, rfl⟩
        have fq : Fr [] wr wq := by rw [hwq]; exact (Fr.refl _ _).drewN _
        rw [← hwq]
        have HQ := Lib.hid (And.intro (HR.out.1.grow fq) HR.out.2)
        clear hwq fq HR d2 y0 y1 y2 y3 y4 y5 y6 z0 z1 z2 z3 z4 z5 z6
        have d2 := HB.out _ HQ.out.1.fr
        have hx0 := HX.out _ HQ.out.1.fr
        have y0 := hx0.c0
        have y1 := hx0.c1
        have y2 := hx0.c2
        have y3 := hx0.c3
        have y4 := hx0.c4
        have y5 := hx0.c5
        have y6 := hx0.c6
        have hcr := HC.out.grow HQ.out.1.fr
        have z0 := hcr.c0
        have z1 := hcr.c1
        have z2 := hcr.c2
        have z3 := hcr.c3
        have z4 := hcr.c4
        have z5 := hcr.c5
        have z6 := hcr.c6
        clear hx0 hcr
        have HS := Lib.hid (And.intro HQ.out.2 (own_fr (S := []) HQ.out.1.own ((Fr.refl [] wq).alloc (.cells #[.int .u32 x.id, .int .u32 x.num, .int .u32 x.t, .int .i32 x.px, .int .i32 x.py, .float .f64 x.sp, .slice x.p x.n x.c] 119)) (by simp)))
        go_wp2_with (at_builtin; go_must (refine wpList_app _ rfl (.tmp 35) (.tmp 43) 125 rfl 119 (.agg #[.int .u32 0, .int .u32 0, .int .u32 0, .int .i32 0, .int .i32 0, .float .f64 0, .slice none 0 0]) 7 56 Tryd.underlying125 infoOb rfl (by decide) _ _ _ rfl HS.out.2 ⟨_, 0, none⟩ 1 1 (encO x) rfl rfl (new_list _ (encO x) 119 _ rfl) (encO_one _) (by have := HS.out.1; unfold maxLen; omega) (by have := HS.out.1; omega) ?_); intro v2 w2 happ; have HA := Lib.hid happ; clear happ)
        go_roundw
        case rel => exact ⟨k + 1, by omega, by go_num, by rw [HW.out], by rw [HW.out]; exact HQ.out.1.ob1 HA.out⟩
        case measure => simp [intOf]; omega
      | false =>
        by_cases hfx : x0.id < x.id
        · have hsn : ostTo x0 (l.take (k + 1)) = (q ++ [x0] ++ [x], true) := by rw [hsn]; unfold ost; rw [if_pos ⟨rfl, hfx⟩]
          have HW := Lib.hid hsn
          clear hsn
          go_wp2_with fail
          go_quiet (fail)
          rename Nat => nq
          obtain ⟨wq, hwq⟩ : ∃ wq, wq = wr.drewN nq := ⟨_, rfl⟩
          have fq : Fr [] wr wq := by rw [hwq]; exact (Fr.refl _ _).drewN _
          rw [← hwq]
          have HQ := Lib.hid (And.intro (HR.out.1.grow fq) HR.out.2)
          clear hwq fq HR d2 y0 y1 y2 y3 y4 y5 y6 z0 z1 z2 z3 z4 z5 z6
          have d2 := HB.out _ HQ.out.1.fr
          have hx0 := HX.out _ HQ.out.1.fr
          have y0 := hx0.c0
          have y1 := hx0.c1
          have y2 := hx0.c2
          have y3 := hx0.c3
          have y4 := hx0.c4
          have y5 := hx0.c5
          have y6 := hx0.c6
          have hcr := HC.out.grow HQ.out.1.fr
          have z0 := hcr.c0
          have z1 := hcr.c1
          have z2 := hcr.c2
          have z3 := hcr.c3
          have z4 := hcr.c4
          have z5 := hcr.c5
          have z6 := hcr.c6
          clear hx0 hcr
          have HS := Lib.hid (And.intro HQ.out.2 (own_fr (S := []) HQ.out.1.own ((Fr.refl [] wq).alloc (.cells #[.int .u32 x.id, .int .u32 x.num, .int .u32 x.t, .int .i32 x.px, .int .i32 x.py, .float .f64 x.sp, .slice x.p x.n x.c] 119)) (by simp)))
          have HS0 := Lib.hid (own_fr (S := []) HQ.out.1.own ((Fr.refl [] wq).alloc (.cells #[.int .u32 x0.id, .int .u32 x0.num, .int .u32 x0.t, .int .i32 x0.px, .int .i32 x0.py, .float .f64 x0.sp, .slice x0.p x0.n x0.c] 119)) (by simp))
          go_wp2_with (first | (at_builtin; (refine wpList_app _ rfl (.tmp 31) (.tmp 33) 125 rfl 119 (.agg #[.int .u32 0, .int .u32 0, .int .u32 0, .int .i32 0, .int .i32 0, .float .f64 0, .slice none 0 0]) 7 56 Tryd.underlying125 infoOb rfl (by decide) _ _ _ rfl HS0.out ⟨_, 0, none⟩ 1 1 (encO x0) rfl rfl (new_list _ (encO x0) 119 _ rfl) (encO_one _) (by have := HS.out.1; unfold maxLen; omega) (by have := HS.out.1; omega) ?_); intro v1 w1 happ; have hb := HQ.out.1.ob1 happ; obtain ⟨pv, cv, rfl⟩ := hb.form; clear d2 z0 z1 z2 z3 z4 z5 z6; have d2 := HB.out _ hb.fr; have hcr := HC.out.grow hb.fr; have z0 := hcr.c0; have z1 := hcr.c1; have z2 := hcr.c2; have z3 := hcr.c3; have z4 := hcr.c4; have z5 := hcr.c5; have z6 := hcr.c6; have ho := own_fr (S := []) hb.own ((Fr.refl [] w1).alloc (.cells #[.int .u32 x.id, .int .u32 x.num, .int .u32 x.t, .int .i32 x.px, .int .i32 x.py, .float .f64 x.sp, .slice x.p x.n x.c] 119)) (by simp); rw [List.length_append, List.length_singleton] at ho; have HB1 := Lib.hid (And.intro hb ho); clear hb happ ho hcr y0 y1 y2 y3 y4 y5 y6) | (at_builtin; go_must (refine wpList_app _ rfl (.tmp 35) (.tmp 43) 125 rfl 119 (.agg #[.int .u32 0, .int .u32 0, .int .u32 0, .int .i32 0, .int .i32 0, .float .f64 0, .slice none 0 0]) 7 56 Tryd.underlying125 infoOb rfl (by decide) _ _ _ rfl HB1.out.2 ⟨_, 0, none⟩ 1 1 (encO x) rfl rfl (new_list _ (encO x) 119 _ rfl) (encO_one _) (by have := HS.out.1; simp; unfold maxLen; omega) (by have := HS.out.1; simp; omega) ?_); intro v2 w2 happ; have HA := Lib.hid happ; clear happ))
          go_roundw
          case rel => exact ⟨k + 1, by omega, by go_num, by rw [HW.out], by rw [HW.out]; exact (HB1.out.1).ob1 (by rw [List.length_append, List.length_singleton]; exact HA.out)⟩
          case measure => simp [intOf]; omega
        · have hsn : ostTo x0 (l.take (k + 1)) = (q ++ [x], false) := by rw [hsn]; unfold ost; rw [if_neg (fun h => hfx h.2)]
          have HW := Lib.hid hsn
          clear hsn
          go_wp2_with fail
          go_quiet (fail)
          rename Nat => nq
          obtain ⟨wq, hwq⟩ : ∃ wq, wq = wr.drewN nq := ⟨_, rfl⟩
          have fq : Fr [] wr wq := by rw [hwq]; exact (Fr.refl _ _).drewN _
          rw [← hwq]
          have HQ := Lib.hid (And.intro (HR.out.1.grow fq) HR.out.2)
          clear hwq fq HR d2 y0 y1 y2 y3 y4 y5 y6 z0 z1 z2 z3 z4 z5 z6
          have d2 := HB.out _ HQ.out.1.fr
          have hx0 := HX.out _ HQ.out.1.fr
          have y0 := hx0.c0
          have y1 := hx0.c1
          have y2 := hx0.c2
          have y3 := hx0.c3
          have y4 := hx0.c4
          have y5 := hx0.c5
          have y6 := hx0.c6
          have hcr := HC.out.grow HQ.out.1.fr
          have z0 := hcr.c0
          have z1 := hcr.c1
          have z2 := hcr.c2
          have z3 := hcr.c3
          have z4 := hcr.c4
          have z5 := hcr.c5
          have z6 := hcr.c6
          clear hx0 hcr
          have HS := Lib.hid (And.intro HQ.out.2 (own_fr (S := []) HQ.out.1.own ((Fr.refl [] wq).alloc (.cells #[.int .u32 x.id, .int .u32 x.num, .int .u32 x.t, .int .i32 x.px, .int .i32 x.py, .float .f64 x.sp, .slice x.p x.n x.c] 119)) (by simp)))
          go_wp2_with (at_builtin; go_must (refine wpList_app _ rfl (.tmp 35) (.tmp 43) 125 rfl 119 (.agg #[.int .u32 0, .int .u32 0, .int .u32 0, .int .i32 0, .int .i32 0, .float .f64 0, .slice none 0 0]) 7 56 Tryd.underlying125 infoOb rfl (by decide) _ _ _ rfl HS.out.2 ⟨_, 0, none⟩ 1 1 (encO x) rfl rfl (new_list _ (encO x) 119 _ rfl) (encO_one _) (by have := HS.out.1; unfold maxLen; omega) (by have := HS.out.1; omega) ?_); intro v2 w2 happ; have HA := Lib.hid happ; clear happ)
          go_roundw
          case rel => exact ⟨k + 1, by omega, by go_num, by rw [HW.out], by rw [HW.out]; exact HQ.out.1.ob1 HA.out⟩
          case measure => simp [intOf]; omega
    · have hfin : l.take k = l := List.take_of_length_le (by have := HL.out.2.1; omega)
      rw [hfin] at HR ⊢
      have hpl := putL_len l x0
      have HW := Lib.hid (show putL l x0 = if (ostTo x0 l).2 = true then (ostTo x0 l).1 else (ostTo x0 l).1 ++ [x0] from rfl)
      have HP := Lib.hid (show (putL l x0).length ≤ maxLen by have := HL.out.2.1; unfold maxLen; omega)
      clear hpl
      generalize ostTo x0 l = st at *
      obtain ⟨q, d⟩ := st
      dsimp only at HR HW ⊢
      clear hfin
      have e2 := (HR.out.1.fr.blk (HL.out.2.2.2.blk HL.out.2.2.1 (by simp)) (by simp)).free 2
      cases d with
      | true =>
        have hw : putL l x0 = q := by rw [HW.out]; rfl
        have hst := obs_store HL.out.2.2.1 ⟨HR.out.1.own, fun g hg => Nat.le_trans HL.out.2.2.2.size (HR.out.1.low g hg), HL.out.2.2.2.trans HR.out.1.fr (by simp)⟩ (by rw [← hw]; exact HP.out)
        have HST := Lib.hid (And.intro hst (fun g hg => Nat.le_trans HL.out.2.2.2.size (HR.out.1.low g hg)))
        have HW2 := Lib.hid hw
        clear hst hw
        go_wp2
        go_end0
        exact ⟨rfl, _, HST.out.1.1, by rw [HW2.out]; exact HST.out.1.2.1, HST.out.2, HST.out.1.2.2⟩
      | false =>
        have hw : putL l x0 = q ++ [x0] := by rw [HW.out]; rfl
        have HS := Lib.hid (And.intro HR.out.2 (own_fr (S := []) HR.out.1.own ((Fr.refl [] wr).alloc (.cells #[.int .u32 x0.id, .int .u32 x0.num, .int .u32 x0.t, .int .i32 x0.px, .int .i32 x0.py, .float .f64 x0.sp, .slice x0.p x0.n x0.c] 119)) (by simp)))
        have HW2 := Lib.hid hw
        clear hw
        go_wp2_with (at_builtin; go_must (refine wpList_app _ rfl (.tmp 47) (.tmp 49) 125 rfl 119 (.agg #[.int .u32 0, .int .u32 0, .int .u32 0, .int .i32 0, .int .i32 0, .float .f64 0, .slice none 0 0]) 7 56 Tryd.underlying125 infoOb rfl (by decide) _ _ _ rfl HS.out.2 ⟨_, 0, none⟩ 1 1 (encO x0) rfl rfl (new_list _ (encO x0) 119 _ rfl) (encO_one _) (by have := HS.out.1; unfold maxLen; omega) (by have := HS.out.1; omega) ?_); intro v2 w2 happ; have hb := HR.out.1.ob1 happ; obtain ⟨pv, cv, rfl⟩ := hb.form; have e3 := (hb.fr.blk (HL.out.2.2.2.blk HL.out.2.2.1 (by simp)) (by simp)).free 2; have hst := obs_store HL.out.2.2.1 ⟨hb.own, fun g hg => Nat.le_trans HL.out.2.2.2.size (hb.low g hg), HL.out.2.2.2.trans hb.fr (by simp)⟩ (by rw [← HW2.out]; exact HP.out); have d3 := HB.out _ hb.fr; have hst2 := And.intro hst (fun g hg => Nat.le_trans HL.out.2.2.2.size (hb.low g hg)); simp only [List.length_append, List.length_singleton] at hst2; have HST := Lib.hid hst2; clear hst hst2 happ hb)
        go_end0
        exact ⟨rfl, _, HST.out.1.1, by rw [HW2.out]; exact HST.out.1.2.1, HST.out.2, HST.out.1.2.2⟩
end Go.Proofs.YtgoolkgjcmdilaaDoor
end
section
namespace Go.Proofs.YtgoolkgjcmdilaaDoor
open Go.RowKit
set_option linter.unusedVariables false
set_option linter.unusedSimpArgs false
attribute [local go_sem] Oper.semAt_some
theorem set_snoc {l : List RO} {k r : Nat} {x y : RO} (h : l[k]? = some x) : (l.take (k + 1)).set r y = (l.take k).set r y ++ [if k = r then y else x] := by
  have hl : (l.take k).length = k := by rw [List.length_take]; have := (List.getElem?_eq_some_iff.1 h).1; omega
  rw [take_snoc h]
  rcases Nat.lt_trichotomy r k with c | c | c
  · rw [List.set_append_left _ _ (by omega), if_neg (by omega)]
  · subst c
    rw [List.set_append_right _ _ (by omega), hl, if_pos rfl, List.set_eq_of_length_le (l := l.take r) (by omega)]
    simp
  · rw [List.set_append_right _ _ (by omega), hl, if_neg (by omega), List.set_eq_of_length_le (l := l.take k) (by omega), List.set_eq_of_length_le (by simp; omega)]
/-- A list less what stands at a place; -1: all of it. -/
def delAt (l : List RO) (z : Int) : List RO := if z < 0 then l else l.eraseIdx z.toNat
theorem delAt_snoc {l : List RO} {k : Nat} {x : RO} (z : Int) (h : l[k]? = some x) : delAt (l.take (k + 1)) z = delAt (l.take k) z ++ (if (k : Int) = z then [] else [x]) := by
  have hl : (l.take k).length = k := by rw [List.length_take]; have := (List.getElem?_eq_some_iff.1 h).1; omega
  unfold delAt
  rw [take_snoc h]
  by_cases hz : z < 0
  · rw [if_pos hz, if_pos hz, if_neg (by omega)]
  · rw [if_neg hz, if_neg hz]
    rcases Nat.lt_trichotomy z.toNat k with c | c | c
    · rw [List.eraseIdx_append_of_lt_length (by omega), if_neg (by omega)]
    · rw [List.eraseIdx_append_of_length_le (by omega), hl, if_pos (by omega), c, Nat.sub_self, List.eraseIdx_of_length_le (l := l.take k) (by omega)]
      rfl
    · rw [List.eraseIdx_append_of_length_le (by omega), hl, if_neg (by omega), List.eraseIdx_of_length_le (l := l.take k) (by omega), List.eraseIdx_of_length_le (by simp; omega)]
theorem delAt_len (l : List RO) (z : Int) : (delAt l z).length ≤ l.length := by
  unfold delAt
  split
  · exact Nat.le_refl _
  · rw [List.length_eraseIdx]; split <;> omega
theorem findFrom_range (id : Int) : ∀ (l : List RO) (k : Int), findFrom id l k = -1 ∨ (k ≤ findFrom id l k ∧ findFrom id l k < k + l.length)
  | [], k => .inl rfl
  | x :: l, k => by
    unfold findFrom
    split
    · exact .inr ⟨Int.le_refl _, by simp; omega⟩
    · rcases findFrom_range id l (k + 1) with h | h
      · exact .inl h
      · exact .inr (by simp; omega)
theorem findZ_range (l : List RO) (id : Int) : findZ l id = -1 ∨ (0 ≤ findZ l id ∧ findZ l id < l.length) := by
  have := findFrom_range id l 0
  unfold findZ
  omega
set_option maxRecDepth 100000 in
set_option maxHeartbeats 800000 in
theorem with_ob (w : World) (kr : Nat) (r0 r1 : Int) (vL vF : Value) (l : List RO) (x0 : RO) (r : Nat) (h : RfAt w kr r0 r1 vL vF) (hl : ObS w vL l) (hs : l.length ≤ 100000) :
    Calls Tryd.prog 147 #[.pointer (some ⟨kr, 0, none⟩), .int .i64 r, .agg #[.int .u32 x0.id, .int .u32 x0.num, .int .u32 x0.t, .int .i32 x0.px, .int .i32 x0.py, .float .f64 x0.sp, .slice x0.p x0.n x0.c]] w (ObsPost w kr r0 r1 vF (l.set r x0) (.tuple #[])) := by
  obtain ⟨n, hn⟩ : ∃ n, n = l.length := ⟨_, rfl⟩
  obtain ⟨p, cap, rfl⟩ := hl.form
  have F0 : Fr [] w (w.alloc (.cells #[.int .u32 x0.id, .int .u32 x0.num, .int .u32 x0.t, .int .i32 x0.px, .int .i32 x0.py, .float .f64 x0.sp, .slice x0.p x0.n x0.c] 119)) := (Fr.refl _ _).alloc _
  have hA := Blk.new w #[.int .u32 x0.id, .int .u32 x0.num, .int .u32 x0.t, .int .i32 x0.px, .int .i32 x0.py, .float .f64 x0.sp, .slice x0.p x0.n x0.c] 119
  have HB := Lib.hid (show ∀ W, Fr [] (w.alloc (.cells #[.int .u32 x0.id, .int .u32 x0.num, .int .u32 x0.t, .int .i32 x0.px, .int .i32 x0.py, .float .f64 x0.sp, .slice x0.p x0.n x0.c] 119)) W → W.cell? ⟨kr, 2, none⟩ = some (.slice p n cap) from fun W f => by rw [hn]; exact ((F0.trans f (by simp)).blk h (by simp)).at 2 rfl)
  have HX := Lib.hid (show ∀ W, Fr [] (w.alloc (.cells #[.int .u32 x0.id, .int .u32 x0.num, .int .u32 x0.t, .int .i32 x0.px, .int .i32 x0.py, .float .f64 x0.sp, .slice x0.p x0.n x0.c] 119)) W → ObCells W w.heap.size 0 x0 from fun W f => by
    have hb := f.blk hA (by simp)
    exact ⟨hb.at 0 rfl, hb.at 1 rfl, hb.at 2 rfl, hb.at 3 rfl, hb.at 4 rfl, hb.at 5 rfl, hb.at 6 rfl⟩)
  have HL := Lib.hid (And.intro (hl.grow F0) (And.intro hn (And.intro h F0)))
  rw [← hn] at hs
  clear hl hn h hA
  go_enter Tryd.func147, Tryd.ntmps147
  go_wp2
  obtain ⟨w0, hw0⟩ : ∃ w0, w.alloc (.cells #[.int .u32 x0.id, .int .u32 x0.num, .int .u32 x0.t, .int .i32 x0.px, .int .i32 x0.py, .float .f64 x0.sp, .slice x0.p x0.n x0.c] 119) = w0 := ⟨_, rfl⟩
  obtain ⟨a0, ha0⟩ : ∃ a0, a0 = w.heap.size := ⟨_, rfl⟩
  rw [hw0] at HB HX HL ⊢
  rw [← ha0] at HX ⊢
  clear hw0 ha0 F0
  go_loopw [6, 7] (fun u i wr => ∃ k : Nat, k ≤ n ∧ i = .int .i64 k ∧ RowNew w0 119 7 wr u ((l.take k).set r x0).length (encs ((l.take k).set r x0))) (fun _ i _ => n - (intOf i).toNat)
  case atStart => exact ⟨0, by omega, rfl, RowNew.start _ _ _⟩
  case round =>
    obtain ⟨k, hk, rfl, hr⟩ := hrel
    obtain ⟨pu, cu, rfl⟩ := hr.form
    have hlen : ((l.take k).set r x0).length ≤ 100000 := by rw [List.length_set, List.length_take]; omega
    have HR := Lib.hid (And.intro hr hlen)
    clear hr hlen
    have d2 := HB.out _ HR.out.1.fr
    have hx0 := HX.out _ HR.out.1.fr
    have y0 := hx0.c0
    have y1 := hx0.c1
    have y2 := hx0.c2
    have y3 := hx0.c3
    have y4 := hx0.c4
    have y5 := hx0.c5
    have y6 := hx0.c6
    clear hx0
    by_cases hlt : k < n
    · obtain ⟨x, hx⟩ : ∃ x, l[k]? = some x := ⟨_, List.getElem?_eq_getElem (by have := HL.out.2.1; omega)⟩
      obtain ⟨g, o, cp, hv, hc⟩ := ObS.at HL.out.1 hx
      obtain rfl := (Value.slice.inj hv).1
      have hcr := hc.grow (HR.out.1.fr)
      have z0 := hcr.c0
      have z1 := hcr.c1
      have z2 := hcr.c2
      have z3 := hcr.c3
      have z4 := hcr.c4
      have z5 := hcr.c5
      have z6 := hcr.c6
      clear hv hc hcr
      have hsn := set_snoc (r := r) (y := x0) hx
      generalize (l.take k).set r x0 = q at *
      have HS := Lib.hid (And.intro HR.out.2 (own_fr (S := []) HR.out.1.own ((Fr.refl [] wr).alloc (.cells #[.int .u32 x0.id, .int .u32 x0.num, .int .u32 x0.t, .int .i32 x0.px, .int .i32 x0.py, .float .f64 x0.sp, .slice x0.p x0.n x0.c] 119)) (by simp)))
      have HS2 := Lib.hid (own_fr (S := []) HR.out.1.own ((Fr.refl [] wr).alloc (.cells #[.int .u32 x.id, .int .u32 x.num, .int .u32 x.t, .int .i32 x.px, .int .i32 x.py, .float .f64 x.sp, .slice x.p x.n x.c] 119)) (by simp))
      clear hx
      by_cases hkr : k = r
      · rw [if_pos hkr] at hsn
        have HW := Lib.hid hsn
        have b1 : ((k : Int) == (r : Int)) = true := beq_iff_eq.2 (by omega)
        have b2 : (k == r) = true := beq_iff_eq.2 hkr
        subst hkr
        clear hsn
        go_wp2_with (at_builtin; go_must (refine wpList_app _ rfl (.tmp 20) (.tmp 22) 125 rfl 119 (.agg #[.int .u32 0, .int .u32 0, .int .u32 0, .int .i32 0, .int .i32 0, .float .f64 0, .slice none 0 0]) 7 56 Tryd.underlying125 infoOb rfl (by decide) _ _ _ rfl HS.out.2 ⟨_, 0, none⟩ 1 1 (encO x0) rfl rfl (new_list _ (encO x0) 119 _ rfl) (encO_one _) (by have := HS.out.1; unfold maxLen; omega) (by have := HS.out.1; omega) ?_); intro v2 w2 happ; have HA := Lib.hid happ; clear happ)
        go_roundw
        case rel => exact ⟨k + 1, by omega, by go_num, by rw [HW.out]; exact HR.out.1.ob1 HA.out⟩
        case measure => simp [intOf]; omega
      · rw [if_neg hkr] at hsn
        have HW := Lib.hid hsn
        have b1 : ((k : Int) == (r : Int)) = false := beq_eq_false_iff_ne.2 (by omega)
        clear hsn
        go_wp2_with (at_builtin; go_must (refine wpList_app _ rfl (.tmp 24) (.tmp 32) 125 rfl 119 (.agg #[.int .u32 0, .int .u32 0, .int .u32 0, .int .i32 0, .int .i32 0, .float .f64 0, .slice none 0 0]) 7 56 Tryd.underlying125 infoOb rfl (by decide) _ _ _ rfl HS2.out ⟨_, 0, none⟩ 1 1 (encO x) rfl rfl (new_list _ (encO x) 119 _ rfl) (encO_one _) (by have := HS.out.1; unfold maxLen; omega) (by have := HS.out.1; omega) ?_); intro v2 w2 happ; have HA := Lib.hid happ; clear happ)
        go_roundw
        case rel => exact ⟨k + 1, by omega, by go_num, by rw [HW.out]; exact HR.out.1.ob1 HA.out⟩
        case measure => simp [intOf]; omega
    · have hfin : l.take k = l := List.take_of_length_le (by have := HL.out.2.1; omega)
      rw [hfin] at HR ⊢
      have e2 := (HR.out.1.fr.blk (HL.out.2.2.2.blk HL.out.2.2.1 (by simp)) (by simp)).free 2
      have hst := obs_store HL.out.2.2.1 ⟨HR.out.1.own, fun g hg => Nat.le_trans HL.out.2.2.2.size (HR.out.1.low g hg), HL.out.2.2.2.trans HR.out.1.fr (by simp)⟩ (by have := HR.out.2; unfold maxLen; omega)
      have hst2 := And.intro hst (fun g hg => Nat.le_trans HL.out.2.2.2.size (HR.out.1.low g hg))
      have HQ := Lib.hid (show (l.set r x0).length = n by rw [List.length_set]; exact HL.out.2.1.symm)
      rw [HQ.out] at hst2 ⊢
      have HST := Lib.hid hst2
      clear hst hst2 hfin
      go_wp2
      go_end0
      exact ⟨rfl, _, HST.out.1.1, HST.out.1.2.1, HST.out.2, HST.out.1.2.2⟩
set_option maxRecDepth 100000 in
set_option maxHeartbeats 800000 in
theorem forget_ob (w : World) (kr : Nat) (r0 r1 : Int) (vL vF : Value) (l : List RO) (id : Int) (h : RfAt w kr r0 r1 vL vF) (hl : ObS w vL l) (hs : l.length ≤ 100000) :
    Calls Tryd.prog 120 #[.pointer (some ⟨kr, 0, none⟩), .int .u32 id] w (ObsPost w kr r0 r1 vF (delAt l (findZ l id)) (.bool (decide (0 ≤ findZ l id)))) := by
  have HF := Lib.hid (find_ob w kr r0 r1 vL vF l id h hl hs)
  obtain ⟨n, hn⟩ : ∃ n, n = l.length := ⟨_, rfl⟩
  obtain ⟨p, cap, rfl⟩ := hl.form
  have HB := Lib.hid (show ∀ W, Fr [] w W → W.cell? ⟨kr, 2, none⟩ = some (.slice p n cap) from fun W f => by rw [hn]; exact (f.blk h (by simp)).at 2 rfl)
  have HL := Lib.hid (And.intro hl (And.intro hn h))
  have hz := findZ_range l id
  rw [← hn] at hs hz
  have hz0 : -1 ≤ findZ l id ∧ findZ l id ≤ 100000 := by omega
  clear hl hn h hz
  generalize findZ l id = z at *
  obtain ⟨hz1, hz2⟩ := hz0
  go_enter Tryd.func120, Tryd.ntmps120
  go_wp2_with fail
  (with_reducible refine (HF.out).mono ?_)
  rintro e w1 ⟨rfl, rfl⟩
  go_wp2
  go_loopw [6, 7] (fun u i wr => ∃ k : Nat, k ≤ n ∧ i = .int .i64 k ∧ RowNew w 119 7 wr u (delAt (l.take k) z).length (encs (delAt (l.take k) z))) (fun _ i _ => n - (intOf i).toNat)
  case atStart =>
    have : delAt (l.take 0) z = [] := by unfold delAt; simp
    exact ⟨0, by omega, rfl, by rw [this]; exact RowNew.start _ _ _⟩
  case round =>
    obtain ⟨k, hk, rfl, hr⟩ := hrel
    obtain ⟨pu, cu, rfl⟩ := hr.form
    have hlen : (delAt (l.take k) z).length ≤ 100000 := by have := delAt_len (l.take k) z; rw [List.length_take] at this; omega
    have HR := Lib.hid (And.intro hr hlen)
    clear hr hlen
    have d2 := HB.out _ HR.out.1.fr
    by_cases hlt : k < n
    · obtain ⟨x, hx⟩ : ∃ x, l[k]? = some x := ⟨_, List.getElem?_eq_getElem (by have := HL.out.2.1; omega)⟩
      obtain ⟨g, o, cp, hv, hc⟩ := ObS.at HL.out.1 hx
      obtain rfl := (Value.slice.inj hv).1
      have hcr := hc.grow HR.out.1.fr
      have z0 := hcr.c0
      have z1 := hcr.c1
      have z2 := hcr.c2
      have z3 := hcr.c3
      have z4 := hcr.c4
      have z5 := hcr.c5
      have z6 := hcr.c6
      clear hv hc hcr
      have hsn := delAt_snoc z hx
      generalize delAt (l.take k) z = q at *
      have HS2 := Lib.hid (And.intro HR.out.2 (own_fr (S := []) HR.out.1.own ((Fr.refl [] wr).alloc (.cells #[.int .u32 x.id, .int .u32 x.num, .int .u32 x.t, .int .i32 x.px, .int .i32 x.py, .float .f64 x.sp, .slice x.p x.n x.c] 119)) (by simp)))
      clear hx
      by_cases hkr : (k : Int) = z
      · rw [if_pos hkr, List.append_nil] at hsn
        have HW := Lib.hid hsn
        have b1 : ((k : Int) != z) = false := by rw [bne_eq_false_iff_eq]; exact hkr
        have b3 : ((k : Int) == z) = true := beq_iff_eq.2 hkr
        clear hsn
        clear hkr
        go_wp2
        go_roundw
        case rel => exact ⟨k + 1, by omega, by go_num, by rw [HW.out]; exact HR.out.1⟩
        case measure => simp [intOf]; omega
      · rw [if_neg hkr] at hsn
        have HW := Lib.hid hsn
        have b1 : ((k : Int) == z) = false := beq_eq_false_iff_ne.2 hkr
        have b2 : ((k : Int) != z) = true := by rw [bne_iff_ne]; exact hkr
        clear hsn
        go_wp2_with (at_builtin; go_must (refine wpList_app _ rfl (.tmp 23) (.tmp 31) 125 rfl 119 (.agg #[.int .u32 0, .int .u32 0, .int .u32 0, .int .i32 0, .int .i32 0, .float .f64 0, .slice none 0 0]) 7 56 Tryd.underlying125 infoOb rfl (by decide) _ _ _ rfl HS2.out.2 ⟨_, 0, none⟩ 1 1 (encO x) rfl rfl (new_list _ (encO x) 119 _ rfl) (encO_one _) (by have := HS2.out.1; unfold maxLen; omega) (by have := HS2.out.1; omega) ?_); intro v2 w2 happ; have HA := Lib.hid happ; clear happ)
        go_roundw
        case rel => exact ⟨k + 1, by omega, by go_num, by rw [HW.out]; exact HR.out.1.ob1 HA.out⟩
        case measure => simp [intOf]; omega
    · have hfin : l.take k = l := List.take_of_length_le (by have := HL.out.2.1; omega)
      rw [hfin] at HR ⊢
      have e2 := (HR.out.1.fr.blk HL.out.2.2 (by simp)).free 2
      have hst := obs_store HL.out.2.2 HR.out.1 (by have := HR.out.2; unfold maxLen; omega)
      have HST := Lib.hid (And.intro hst HR.out.1.low)
      generalize (delAt l z) = q at *
      clear hst hfin
      go_wp2
      go_ret
      exact ⟨rfl, _, HST.out.1.1, HST.out.1.2.1, HST.out.2, HST.out.1.2.2⟩
end Go.Proofs.YtgoolkgjcmdilaaDoor
end
