/-
  TurnWhole: whole similarities are joined exactly; with the unit nothing changes. For every input.
-/
import Derived.Test.YtkbcdfniocmamaaMapX
import Derived.Test.YtkbcdfniocmamaaMapY
import Derived.Test.YtkbcdfniocmamaaMapZ
namespace Go.Proofs.Ytkbcdfniocmamaa
open Go.RowKit Flo Go.ChangeShapes Go.WideShapes Go.ChangeAt
set_option linter.unusedVariables false

theorem sm_sm (n : Int) : Sm 65536 (sm n) (n.tmod 65537) := by
  have h1 := Int.tmod_lt_of_pos n (show (0 : Int) < 65537 by omega)
  have h2 := Int.lt_tmod_of_pos n (show (0 : Int) < 65537 by omega)
  exact Sm.fl (by omega) (by decide)
theorem same_true (w : World) {a b c d a2 b2 c2 d2 : Nat} (h : mapB a b c d a2 b2 c2 d2 = true) : Calls Try.prog 22 #[.agg #[.complex .f64 a b, .complex .f64 c d], .agg #[.complex .f64 a2 b2, .complex .f64 c2 d2]] w (fun e w' => e = .returned (.bool true) ∧ Fr [] w w') :=
  h ▸ same_any w a b c d a2 b2 c2 d2
namespace whole
set_option maxRecDepth 100000 in
set_option maxHeartbeats 8000000 in
theorem walk (w : World) (a b c d e f g h p q : Int) (ha : I32 a) (hb : I32 b) (hc : I32 c) (hd : I32 d) (he : I32 e) (hf : I32 f) (hg : I32 g) (hh : I32 h) (hp : I32 p) (hq : I32 q) :
    Calls Try.prog 4 #[.agg #[.int .i32 a, .int .i32 b, .int .i32 c, .int .i32 d, .int .i32 e, .int .i32 f, .int .i32 g, .int .i32 h, .int .i32 p, .int .i32 q]] w fun e w' => e = .returned (.bool true) ∧ Fr [] w w' := by
  have M1 := Lib.hid (fun w => whole_any w a b c d ha hb hc hd)
  have M2 := Lib.hid (fun w => whole_any w e f g h he hf hg hh)
  have M3 := Lib.hid (fun w => small_any w p hp)
  have M4 := Lib.hid (fun w => small_any w q hq)
  clear ha hb hc hd he hf hg hh hp hq
  have Sa := Lib.hid (sm_sm a)
  have Sb := Lib.hid (sm_sm b)
  have Sc := Lib.hid (sm_sm c)
  have Sd := Lib.hid (sm_sm d)
  have Se := Lib.hid (sm_sm e)
  have Sf := Lib.hid (sm_sm f)
  have Sg := Lib.hid (sm_sm g)
  have Sh := Lib.hid (sm_sm h)
  have Sp := Lib.hid (sm_sm p)
  have Sq := Lib.hid (sm_sm q)
  have hB0 := (Blk.new_at (w := w) (k := w.heap.size + 0) (by simp) #[.int .i32 a, .int .i32 b, .int .i32 c, .int .i32 d, .int .i32 e, .int .i32 f, .int .i32 g, .int .i32 h, .int .i32 p, .int .i32 q] 59)
  have f0 := ((Fr.refl [] w).alloc (.cells #[.int .i32 a, .int .i32 b, .int .i32 c, .int .i32 d, .int .i32 e, .int .i32 f, .int .i32 g, .int .i32 h, .int .i32 p, .int .i32 q] 59))
  obtain ⟨z0, hz0⟩ : ∃ z, z = w.heap.size := ⟨_, rfl⟩
  rw [show w.heap.size + 0 = z0 by omega] at hB0
  have HZ := Lib.hid (show w.heap.size ≤ z0 from by omega)
  have HF := Lib.hid f0
  have HB0 := Lib.hid hB0
  clear f0 hB0
  go_enter Try.func4, Try.ntmps4
  go_upto_region 1 with fail
  simp only [← hz0]
  clear hz0
  generalize (World.alloc w _) = w0v at *
  obtain ⟨w0, hw0⟩ : ∃ w0, w0 = w0v := ⟨_, rfl⟩
  rw [← hw0] at HB0
  rw [← hw0] at HF
  rw [← hw0]
  clear hw0
  have SS := Lib.hid (fun (W : World) (fq : Fr [] w0 W) => show W.cell? ⟨z0, 0, none⟩ = some (.int .i32 a) ∧ W.cell? ⟨z0, 1, none⟩ = some (.int .i32 b) ∧ W.cell? ⟨z0, 2, none⟩ = some (.int .i32 c) ∧ W.cell? ⟨z0, 3, none⟩ = some (.int .i32 d) ∧ W.cell? ⟨z0, 4, none⟩ = some (.int .i32 e) ∧ W.cell? ⟨z0, 5, none⟩ = some (.int .i32 f) ∧ W.cell? ⟨z0, 6, none⟩ = some (.int .i32 g) ∧ W.cell? ⟨z0, 7, none⟩ = some (.int .i32 h) ∧ W.cell? ⟨z0, 8, none⟩ = some (.int .i32 p) ∧ W.cell? ⟨z0, 9, none⟩ = some (.int .i32 q) from ⟨(fq.blk HB0.out (by simp <;> omega)).at 0 rfl, (fq.blk HB0.out (by simp <;> omega)).at 1 rfl, (fq.blk HB0.out (by simp <;> omega)).at 2 rfl, (fq.blk HB0.out (by simp <;> omega)).at 3 rfl, (fq.blk HB0.out (by simp <;> omega)).at 4 rfl, (fq.blk HB0.out (by simp <;> omega)).at 5 rfl, (fq.blk HB0.out (by simp <;> omega)).at 6 rfl, (fq.blk HB0.out (by simp <;> omega)).at 7 rfl, (fq.blk HB0.out (by simp <;> omega)).at 8 rfl, (fq.blk HB0.out (by simp <;> omega)).at 9 rfl⟩)
  obtain ⟨o0, o1, o2, o3, o4, o5, o6, o7, o8, o9⟩ := SS.out _ (Fr.refl _ w0)
  go_wp2_with fail
  (with_reducible refine (M1.out _).mono ?_)
  rintro _ w1 ⟨rfl, f1⟩
  have G1 := Lib.hid (f1.alloc (.cells #[.complex .f64 (sm a) (sm b), .complex .f64 (sm c) (sm d)] 28))
  have B1 := Lib.hid (Blk.new w1 #[.complex .f64 (sm a) (sm b), .complex .f64 (sm c) (sm d)] 28)
  clear f1 o0 o1 o2 o3 o4 o5 o6 o7 o8 o9
  obtain ⟨o0, o1, o2, o3, o4, o5, o6, o7, o8, o9⟩ := SS.out _ G1.out
  go_wp2_with fail
  (with_reducible refine (M2.out _).mono ?_)
  rintro _ w2 ⟨rfl, f2⟩
  have G2 := Lib.hid ((G1.out.trans f2 (by simp)).alloc (.cells #[.complex .f64 (sm e) (sm f), .complex .f64 (sm g) (sm h)] 28))
  have B2 := Lib.hid (And.intro ((f2.blk B1.out (by simp)).alloc (.cells #[.complex .f64 (sm e) (sm f), .complex .f64 (sm g) (sm h)] 28)) (Blk.new w2 #[.complex .f64 (sm e) (sm f), .complex .f64 (sm g) (sm h)] 28))
  clear f2 B1 G1 M1 M2 o0 o1 o2 o3 o4 o5 o6 o7 o8 o9
  go_upto_region 3 with fail
  obtain ⟨z3, hz3⟩ : ∃ z, z = w1.heap.size := ⟨_, rfl⟩
  obtain ⟨z4, hz4⟩ : ∃ z, z = w2.heap.size := ⟨_, rfl⟩
  rw [← hz3, ← hz4] at B2
  simp only [← hz3, ← hz4]
  clear hz3 hz4
  generalize World.alloc w2 _ = w3v at *
  obtain ⟨w3, hw3⟩ : ∃ w3, w3 = w3v := ⟨_, rfl⟩
  rw [← hw3] at G2 B2
  rw [← hw3]
  clear hw3
  obtain ⟨o0, o1, o2, o3, o4, o5, o6, o7, o8, o9⟩ := SS.out _ G2.out
  go_quiet ((first | (go_at_call_of 28 (Value.int IntKind.i32 p); exact Calls.quiet_of_same ((M3.out _).mono fun _ _ h => ⟨h.1, h.2.symm⟩)) | (go_at_call_of 28 (Value.int IntKind.i32 q); exact Calls.quiet_of_same ((M4.out _).mono fun _ _ h => ⟨h.1, h.2.symm⟩))))
  clear o0 o1 o2 o3 o4 o5 o6 o7 o8 o9 M3 M4
  have G3 := Lib.hid (G2.out.drewN nq)
  have B3 := Lib.hid (And.intro (B2.out.1.drewN nq) (B2.out.2.drewN nq))
  clear G2 B2
  go_wp2_with fail
  (with_reducible refine (unit_any _).mono ?_)
  rintro _ w4 ⟨rfl, f4⟩
  have G4 := Lib.hid ((G3.out.trans f4 (by simp)).alloc (.cells #[.complex .f64 4607182418800017408 0, .complex .f64 0 0] 28))
  have B4 := Lib.hid (And.intro ((f4.blk B3.out.1 (by simp)).alloc (.cells #[.complex .f64 4607182418800017408 0, .complex .f64 0 0] 28)) (And.intro ((f4.blk B3.out.2 (by simp)).alloc (.cells #[.complex .f64 4607182418800017408 0, .complex .f64 0 0] 28)) (Blk.new w4 #[.complex .f64 4607182418800017408 0, .complex .f64 0 0] 28)))
  clear f4 B3 G3
  go_upto_region 5 with fail
  obtain ⟨z6, hz6⟩ : ∃ z, z = w4.heap.size := ⟨_, rfl⟩
  rw [← hz6] at B4
  simp only [← hz6]
  clear hz6
  generalize World.alloc w4 _ = w5v at *
  obtain ⟨w5, hw5⟩ : ∃ w5, w5 = w5v := ⟨_, rfl⟩
  rw [← hw5] at G4 B4
  rw [← hw5]
  clear hw5
  have S5 := Lib.hid (fun (W : World) (fq : Fr [] w5 W) => show W.cell? ⟨z3, 0, none⟩ = some (.complex .f64 (sm a) (sm b)) ∧ W.cell? ⟨z3, 1, none⟩ = some (.complex .f64 (sm c) (sm d)) ∧ W.cell? ⟨z4, 0, none⟩ = some (.complex .f64 (sm e) (sm f)) ∧ W.cell? ⟨z4, 1, none⟩ = some (.complex .f64 (sm g) (sm h)) ∧ W.cell? ⟨z6, 0, none⟩ = some (.complex .f64 4607182418800017408 0) ∧ W.cell? ⟨z6, 1, none⟩ = some (.complex .f64 0 0) from ⟨(fq.blk B4.out.1 (by simp)).at 0 rfl, (fq.blk B4.out.1 (by simp)).at 1 rfl, (fq.blk B4.out.2.1 (by simp)).at 0 rfl, (fq.blk B4.out.2.1 (by simp)).at 1 rfl, (fq.blk B4.out.2.2 (by simp)).at 0 rfl, (fq.blk B4.out.2.2 (by simp)).at 1 rfl⟩)
  obtain ⟨s0, s1, s2, s3, s4, s5⟩ := S5.out _ (Fr.refl _ w5)
  go_cut [33] (fun s33 wx => s33 = .bool false ∧ Fr [] w5 wx)
  case first =>
    go_region_held3 (fun W => W.cell? ⟨z3, 0, none⟩ = some (.complex .f64 (sm a) (sm b)) ∧ W.cell? ⟨z3, 1, none⟩ = some (.complex .f64 (sm c) (sm d)) ∧ W.cell? ⟨z4, 0, none⟩ = some (.complex .f64 (sm e) (sm f)) ∧ W.cell? ⟨z4, 1, none⟩ = some (.complex .f64 (sm g) (sm h)) ∧ W.cell? ⟨z6, 0, none⟩ = some (.complex .f64 4607182418800017408 0) ∧ W.cell? ⟨z6, 1, none⟩ = some (.complex .f64 0 0)) (first | (refine S5.out _ ?_; repeat (first | exact Fu | exact Fs | exact Fo | exact Ft | exact Fr.refl _ _ | refine Fr.drew ?_ | refine Fr.drewN ?_ _)))
      (first
        | (go_at_call 17; refine (then_any _ _ _ _ _ _ _ _ _).mono ?_; rintro _ wt ⟨x, y, u, v, rfl, ht, ft⟩; have Ft : Fr [] w5 wt := (by refine Fr.trans ?_ ft (by simp); repeat (first | exact Fu | exact Fs | exact Fo | exact Fr.refl _ _ | refine Fr.drew ?_ | refine Fr.drewN ?_ _)); have HT := Lib.hid ht; clear ht ft)
        | (go_at_call_of 13 (Value.agg #[Value.complex FloatKind.f64 x y, Value.complex FloatKind.f64 u v]); refine (apply_any _ _ _ _ _ _ _).mono ?_; rintro _ wo ⟨r1, i1, rfl, hr, fo⟩; have Fo : Fr [] w5 wo := (by refine Fr.trans ?_ fo (by simp); repeat (first | exact Fu | exact Fs | exact Ft | exact Fr.refl _ _ | refine Fr.drew ?_ | refine Fr.drewN ?_ _)); have HR := Lib.hid hr; clear hr fo)
        | (go_at_call_of 13 (Value.agg #[Value.complex FloatKind.f64 (sm a) (sm b), Value.complex FloatKind.f64 (sm c) (sm d)]); refine (apply_any _ _ _ _ _ _ _).mono ?_; rintro _ ws ⟨r2, i2, rfl, hs, fs⟩; have Fs : Fr [] w5 ws := (by refine Fr.trans ?_ fs (by simp); repeat (first | exact Fu | exact Fo | exact Ft | exact Fr.refl _ _ | refine Fr.drew ?_ | refine Fr.drewN ?_ _)); have HS := Lib.hid hs; clear hs fs)
        | (go_at_call_of 13 (Value.agg #[Value.complex FloatKind.f64 (sm e) (sm f), Value.complex FloatKind.f64 (sm g) (sm h)]); refine (apply_any _ _ _ _ _ _ _).mono ?_; rintro _ wu ⟨r3, i3, rfl, hu, fu⟩; have Fu : Fr [] w5 wu := (by refine Fr.trans ?_ fu (by simp); repeat (first | exact Fs | exact Fo | exact Ft | exact Fr.refl _ _ | refine Fr.drew ?_ | refine Fr.drewN ?_ _)); have HU := Lib.hid hu; clear hu fu))
    all_goals
      simp only [Exit.then]
      obtain ⟨j1, j2⟩ := whole_join Sa.out Sb.out Sc.out Sd.out Se.out Sf.out Sg.out Sh.out Sp.out Sq.out HT.out HR.out HS.out HU.out
      go_wp2_with fail
      go_meet
      case rel => exact ⟨by first | rfl | (rw [j1, j2]; rfl), by repeat (first | exact Fo | exact Fu | refine Fr.drew ?_ | refine Fr.drewN ?_ _)⟩
  case rest =>
    obtain ⟨rfl, g5⟩ := hcut
    have G5 := Lib.hid (G4.out.trans g5 (by simp))
    have S6 := Lib.hid (fun (W : World) (f : Fr [] wc W) => S5.out W (g5.trans f (by simp)))
    clear g5 S5
    obtain ⟨s0, s1, s2, s3, s4, s5⟩ := S6.out _ (Fr.refl _ wc)
    go_upto_region 7 with fail
    go_region_held3 (fun W => W.cell? ⟨z3, 0, none⟩ = some (.complex .f64 (sm a) (sm b)) ∧ W.cell? ⟨z3, 1, none⟩ = some (.complex .f64 (sm c) (sm d)) ∧ W.cell? ⟨z4, 0, none⟩ = some (.complex .f64 (sm e) (sm f)) ∧ W.cell? ⟨z4, 1, none⟩ = some (.complex .f64 (sm g) (sm h)) ∧ W.cell? ⟨z6, 0, none⟩ = some (.complex .f64 4607182418800017408 0) ∧ W.cell? ⟨z6, 1, none⟩ = some (.complex .f64 0 0)) (first | (refine S6.out _ ?_; repeat (first | exact Fl | exact Fv | exact Fj | exact Fy | exact Fk | exact Ft | exact Fr.refl _ _ | refine Fr.drew ?_ | refine Fr.drewN ?_ _)))
      (first
        | (go_at_call_of 17 (Value.agg #[Value.complex FloatKind.f64 (sm a) (sm b), Value.complex FloatKind.f64 (sm c) (sm d)]); refine (then_any _ _ _ _ _ _ _ _ _).mono ?_; rintro _ wt ⟨x, y, u, v, rfl, ht, ft⟩; have Ft : Fr [] wc wt := (by refine Fr.trans ?_ ft (by simp); repeat (first | exact Fl | exact Fv | exact Fj | exact Fy | exact Fk | exact Fr.refl _ _ | refine Fr.drew ?_ | refine Fr.drewN ?_ _)); have HT := Lib.hid (unit_right Sa.out Sb.out Sc.out Sd.out ht); clear ht ft)
        | (go_at_call_of 17 (Value.agg #[Value.complex FloatKind.f64 4607182418800017408 0, Value.complex FloatKind.f64 0 0]); refine (then_any _ _ _ _ _ _ _ _ _).mono ?_; rintro _ wy ⟨x2, y2, u2, v2, rfl, hy, fy⟩; have Fy : Fr [] wc wy := (by refine Fr.trans ?_ fy (by simp); repeat (first | exact Fl | exact Fv | exact Fj | exact Fk | exact Ft | exact Fr.refl _ _ | refine Fr.drew ?_ | refine Fr.drewN ?_ _)); have HY := Lib.hid (unit_left Sa.out Sb.out Sc.out Sd.out hy); clear hy fy)
        | (go_at_call_of 22 (Value.agg #[Value.complex FloatKind.f64 x y, Value.complex FloatKind.f64 u v]); refine (same_true _ HT.out).mono ?_; rintro _ wk ⟨rfl, fk⟩; have Fk : Fr [] wc wk := (by refine Fr.trans ?_ fk (by simp); repeat (first | exact Fl | exact Fv | exact Fj | exact Fy | exact Ft | exact Fr.refl _ _ | refine Fr.drew ?_ | refine Fr.drewN ?_ _)); clear fk)
        | (go_at_call_of 22 (Value.agg #[Value.complex FloatKind.f64 x2 y2, Value.complex FloatKind.f64 u2 v2]); refine (same_true _ HY.out).mono ?_; rintro _ wj ⟨rfl, fj⟩; have Fj : Fr [] wc wj := (by refine Fr.trans ?_ fj (by simp); repeat (first | exact Fl | exact Fv | exact Fy | exact Fk | exact Ft | exact Fr.refl _ _ | refine Fr.drew ?_ | refine Fr.drewN ?_ _)); clear fj)
        | (go_at_call 13; refine (apply_any _ _ _ _ _ _ _).mono ?_; rintro _ wv ⟨r4, i4, rfl, hv, fv⟩; have Fv : Fr [] wc wv := (by refine Fr.trans ?_ fv (by simp); repeat (first | exact Fl | exact Fj | exact Fy | exact Fk | exact Ft | exact Fr.refl _ _ | refine Fr.drew ?_ | refine Fr.drewN ?_ _)); obtain ⟨j3, j4⟩ := unit_apply Sp.out Sq.out hv; clear hv fv)
        | (go_at_call 26; refine (lives_any _).mono ?_; rintro _ wl ⟨rfl, fl⟩; have Fl : Fr [] wc wl := (by refine Fr.trans ?_ fl (by simp); repeat (first | exact Fv | exact Fj | exact Fy | exact Fk | exact Ft | exact Fr.refl _ _ | refine Fr.drew ?_ | refine Fr.drewN ?_ _)); clear fl))
    all_goals
      simp only [Exit.then]
      go_wp2_with fail
      go_ret
      exact ⟨rfl, HF.out.trans (G5.out.trans (by repeat (first | exact Fl | refine Fr.drew ?_ | refine Fr.drewN ?_ _)) (by simp)) (by simp)⟩
theorem cells56 : Try.prog.cellsOf 56 = 4 := by kernel_rfl
theorem cells57 : Try.prog.cellsOf 57 = 2 := by kernel_rfl
theorem cells59 : Try.prog.cellsOf 59 = 10 := by kernel_rfl
theorem cells21 : Try.prog.cellsOf 21 = 1 := by kernel_rfl
theorem ten_of {α : Type} {l : List α} (h : l.length = 10) : ∃ a b c d e f g k m n, l = [a, b, c, d, e, f, g, k, m, n] := by
  match l, h with
  | [a, b, c, d, e, f, g, k, m, n], _ => exact ⟨a, b, c, d, e, f, g, k, m, n, rfl⟩
theorem three_of {α : Type} {l : List α} (h : l.length = 3) : ∃ a b c, l = [a, b, c] := by
  match l, h with
  | [a, b, c], _ => exact ⟨a, b, c, rfl⟩
set_option maxRecDepth 100000 in
theorem read_one {w : World} {H : Type} {enc : TypeId × Value → H} {fuel : Nat} {v : Value} {x : DataW H × List MemPlace} (h : DataW.trod enc Try.prog w 0 (fun _ => true) true fuel 21 [v] = some x) : ∃ n : Int, v = .int .i32 n ∧ I32 n := by
  obtain ⟨n0, h0, w0⟩ := read_int Try.underlying21 h
  have b0 := bounds_i32 w0
  cases h0
  exact ⟨n0, rfl, by unfold I32; omega⟩
set_option maxRecDepth 100000 in
theorem read_arr4 {w : World} {H : Type} {enc : TypeId × Value → H} {fuel : Nat} {a b c d : Value} {x : DataW H × List MemPlace} (h : DataW.trod enc Try.prog w 0 (fun _ => true) true fuel 56 [a, b, c, d] = some x) :
    ∃ k l m n : Int, a = .int .i32 k ∧ b = .int .i32 l ∧ c = .int .i32 m ∧ d = .int .i32 n ∧ I32 k ∧ I32 l ∧ I32 m ∧ I32 n := by
  obtain ⟨xs, m, _, _, hl, hlen, hf⟩ := DataW.trod_array Try.underlying56 h
  obtain ⟨y0, y1, y2, y3, rfl⟩ := four_of hlen
  have f0 := hf 0 (by omega)
  have f1 := hf 1 (by omega)
  have f2 := hf 2 (by omega)
  have f3 := hf 3 (by omega)
  rw [cells21] at f0 f1 f2 f3
  obtain ⟨n0, h0, i0⟩ := read_one (v := a) f0
  obtain ⟨n1, h1, i1⟩ := read_one (v := b) f1
  obtain ⟨n2, h2, i2⟩ := read_one (v := c) f2
  obtain ⟨n3, h3, i3⟩ := read_one (v := d) f3
  exact ⟨n0, n1, n2, n3, h0, h1, h2, h3, i0, i1, i2, i3⟩
set_option maxRecDepth 100000 in
theorem read_arr2 {w : World} {H : Type} {enc : TypeId × Value → H} {fuel : Nat} {a b : Value} {x : DataW H × List MemPlace} (h : DataW.trod enc Try.prog w 0 (fun _ => true) true fuel 57 [a, b] = some x) :
    ∃ k l : Int, a = .int .i32 k ∧ b = .int .i32 l ∧ I32 k ∧ I32 l := by
  obtain ⟨xs, m, _, _, hl, hlen, hf⟩ := DataW.trod_array Try.underlying57 h
  obtain ⟨y0, y1, rfl⟩ := two_of hlen
  have f0 := hf 0 (by omega)
  have f1 := hf 1 (by omega)
  rw [cells21] at f0 f1
  obtain ⟨n0, h0, i0⟩ := read_one (v := a) f0
  obtain ⟨n1, h1, i1⟩ := read_one (v := b) f1
  exact ⟨n0, n1, h0, h1, i0, i1⟩
set_option maxRecDepth 100000 in
theorem read_whole {w : World} {H : Type} {enc : TypeId × Value → H} {fuel : Nat} {cs : List Value} {x : DataW H × List MemPlace} (h : DataW.trod enc Try.prog w 0 (fun _ => true) true fuel 59 cs = some x) :
    ∃ a b c d e f g k p q : Int, cs = [.int .i32 a, .int .i32 b, .int .i32 c, .int .i32 d, .int .i32 e, .int .i32 f, .int .i32 g, .int .i32 k, .int .i32 p, .int .i32 q] ∧ I32 a ∧ I32 b ∧ I32 c ∧ I32 d ∧ I32 e ∧ I32 f ∧ I32 g ∧ I32 k ∧ I32 p ∧ I32 q := by
  obtain ⟨xs, m, _, _, hl, hlen, hf⟩ := DataW.trod_struct Try.underlying59 h
  rw [cells59] at hl
  obtain ⟨a, b, c, d, e, f, g, k, p, q, rfl⟩ := ten_of hl
  obtain ⟨y0, y1, y2, rfl⟩ := three_of hlen
  obtain ⟨a', b', c', d', rfl, rfl, rfl, rfl, i0, i1, i2, i3⟩ := read_arr4 (a := a) (b := b) (c := c) (d := d) (hf 0 _ rfl)
  obtain ⟨e', f', g', k', rfl, rfl, rfl, rfl, j0, j1, j2, j3⟩ := read_arr4 (a := e) (b := f) (c := g) (d := k) (hf 1 _ rfl)
  obtain ⟨p', q', rfl, rfl, l0, l1⟩ := read_arr2 (a := p) (b := q) (hf 2 _ rfl)
  exact ⟨a', b', c', d', e', f', g', k', p', q', rfl, i0, i1, i2, i3, j0, j1, j2, j3, l0, l1⟩
set_option maxRecDepth 100000 in
theorem lifted (os : Os) (started : os.Started) (H : Type) (enc : TypeId × Value → H) :
    ReturnsInHanded {} Try.checked os 4 .any (Rows.turnWholeSpec.pre6 enc Try.prog Try.f4 Rows.turnWholeRow.domain false) (Rows.turnWholeSpec.post enc Try.prog Try.f4 false true false false) := by
  refine returnsInHanded_of_change (C := Try.checked) own started (by kernel_rfl) Try.func4
    (ChangeSpec.witness6 (enc := enc) (C := Try.checked) false ⟨#[], #[.agg #[.int .i32 0, .int .i32 0, .int .i32 0, .int .i32 0, .int .i32 0, .int .i32 0, .int .i32 0, .int .i32 0, .int .i32 0, .int .i32 0]], []⟩ 8 (by kernel_rfl) (by kernel_rfl) (by kernel_rfl) (by kernel_rfl)) ?_
  intro W base args ds gs before hval0 hW hcnd _
  have hval : ∀ (j : Nat) t v, Try.f4.params[j]? = some t → args[j]? = some v → Value.okWide Try.prog W .any base t v := hval0
  have hW' := hW
  obtain ⟨p, q, hA, hV, rfl, hfz, hnd⟩ := hW
  rw [Try.params4] at hA hval
  obtain ⟨v0, d0, hargs, rfl, h0⟩ := trodAll_one hA
  obtain ⟨rfl, rfl⟩ := trodVars_none hV
  have : args = #[v0] := by simpa using hargs
  subst this
  obtain ⟨fu0, l0, rfl, e0⟩ := open_agg Try.underlying59 (hval 0 59 v0 rfl rfl) h0
  obtain ⟨a, b, c, d, e, f, g, k, p, q, rfl, i0, i1, i2, i3, j0, j1, j2, j3, k0, k1⟩ := read_whole e0
  refine (walk W a b c d e f g k p q i0 i1 i2 i3 j0 j1 j2 j3 k0 k1).mono fun e W' ⟨he, hg⟩ => ?_
  exact ⟨_, he, law_post (tb := 4) laidOut (by
    rw [Try.params4]; intro t ht; simp at ht
    subst ht
    · exact ⟨by kernel_rfl, of_decide_eq_true (by kernel_rfl)⟩) rfl Try.underlying4 rfl hW' rfl hg⟩
theorem over : Rows.turnWholeRow.holds Try.pinned (OpenSpec.ofChange Rows.turnWholeSpec) :=
  OpenClaim.holds_of_wide 4 Try.f4 rfl rfl rfl rfl rfl rfl rfl ⟨rfl, rfl, rfl, rfl, rfl⟩ rfl rfl rfl rfl rfl (by kernel_rfl) Try.func4 (by kernel_rfl)
    (of_decide_eq_true (by kernel_rfl)) (by unfold Func.isWrapper; first | (rw [if_pos (by decide +kernel)]; kernel_rfl) | (rw [if_neg (by decide +kernel)]; exact ⟨rfl, rfl⟩))
    (fun os started H enc _ => lifted os started H enc)
/-- The statement TurnWhole. -/
theorem proved : Rows.TurnWholeSaid := over
#print axioms proved

end whole
end Go.Proofs.Ytkbcdfniocmamaa
