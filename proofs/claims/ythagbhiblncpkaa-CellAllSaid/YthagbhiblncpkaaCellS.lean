/-
  The iterator of cell.Cover: what it tells.
-/
import Derived.Test.YthagbhiblncpkaaCellR
import Derived.Test.YthagbhiblncpkaaCellP
import Derived.Deep.CutBlock
import Derived.Deep.DeepCutAuto
namespace Go.Proofs.Ythagbhiblncpkaa
open Go.RowKit Go.Shelf
set_option linter.unusedVariables false
attribute [local go_sem] Oper.semAt_some

/-- Code that does not panic, and goes on. -/
theorem wp_calm {P : Program} {c : Code} {Q : Exit → Act → World → Prop} {a : Act} {w : World} (h : c.wp P (Exit.then (Q .normal) (fun _ _ _ => False)) a w) : c.wp P Q a w :=
  Code.wp_mono (fun e a w q => by cases e <;> first | exact q | exact q.elim) h
/-- What the iterator holds. -/
structure BHeld (bs bb : Nat) (a b c d s : Int) (W : World) : Prop where
  s : Blk W bs #[.int .i64 s] 2
  b : Blk W bb #[.int .i32 a, .int .i32 b, .int .i32 c, .int .i32 d] 39
theorem BHeld.fr {bs bb : Nat} {a b c d s : Int} {W W' : World} (h : BHeld bs bb a b c d s W) (f : Fr [] W W') : BHeld bs bb a b c d s W' := ⟨f.blk h.s (by simp), f.blk h.b (by simp)⟩
abbrev tsC : List TypeId := [2, 39, 21, 56]
/-- What holds between two rounds: the iterator's own boxes. -/
structure CI (z3 z1 z2 bs bb B l : Nat) (fx fy tx ty a b c d s : Int) (W : World) : Prop where
  h : BHeld bs bb a b c d s W
  y : Blk W z3 #[.func (.yield l) #[] #[]] 56
  p : Blk W z1 #[.int .i32 fx, .int .i32 fy] 33
  q : Blk W z2 #[.int .i32 tx, .int .i32 ty] 33
  w : Away B [z1, z2] W
theorem CI.kp {z3 z1 z2 bs bb B l D : Nat} {fx fy tx ty a b c d s : Int} {W W' : World} (h : CI z3 z1 z2 bs bb B l fx fy tx ty a b c d s W) (k : KpC tsC D B W W') : CI z3 z1 z2 bs bb B l fx fy tx ty a b c d s W' :=
  ⟨⟨k.1.1 _ _ _ (by simp) h.h.s, k.1.1 _ _ _ (by simp) h.h.b⟩, k.1.1 _ _ _ (by simp) h.y, h.w.cell k.2 (by simp) h.p, h.w.cell k.2 (by simp) h.q,
    h.w.kept k.2 (fun i hi => by simp at hi; rcases hi with rfl | rfl <;> first | exact h.p.lt | exact h.q.lt)⟩
theorem CI.fr {z3 z1 z2 bs bb B l : Nat} {fx fy tx ty a b c d s : Int} {W W' : World} (h : CI z3 z1 z2 bs bb B l fx fy tx ty a b c d s W) (f : Fr [] W W') : CI z3 z1 z2 bs bb B l fx fy tx ty a b c d s W' :=
  h.kp (D := 0) (KpC.of_fr f)
theorem CI.ab {z3 z1 z2 bs bb B l n : Nat} {fx fy tx ty a b c d s : Int} {A A' : World} {row : Option Nat} (hg : A.grownBy A' row) (hr : ∀ r, row = some r → r ∈ ([] : List Nat) ∨ (n ≤ r ∧ ∃ o : Obj, A.heap[r]? = some o ∧ o.isCells = false))
    (h : CI z3 z1 z2 bs bb B l fx fy tx ty a b c d s A) : CI z3 z1 z2 bs bb B l fx fy tx ty a b c d s A' :=
  ⟨⟨blk_ab hg hr h.h.s (by simp), blk_ab hg hr h.h.b (by simp)⟩, blk_ab hg hr h.y (by simp), blk_ab hg hr h.p (by simp), blk_ab hg hr h.q (by simp), h.w.ab hg hr⟩
set_option maxRecDepth 100000 in
set_option maxHeartbeats 4000000 in
theorem cover_in (m l bs bb B D : Nat) (a b c d s : Int) (hm : 3 ≤ m) (hf : fits s = true) (hb : boxOk a b c d = true)
    (J Jx : List (Int × Int) → World → Prop) (W : World) (hh : BHeld bs bb a b c d s W) (hD : D ≤ W.heap.size) (hA : Away B [] W) (hJ : Ab W.heap.size [] J) (hJx : Ab W.heap.size [] Jx)
    (hY : ∀ pre x W1, J pre W1 → pre.length < (covSeq a b c d s).length → YieldAt Fence.wide (m - 1) Try.prog l (cellArg x) W1 fun e W' =>
      KpC tsC D B W1 W' ∧ ((e = .returned (.bool true) ∧ J (pre ++ [x]) W') ∨ (e = .returned (.bool false) ∧ Jx (pre ++ [x]) W')))
    (h0 : J [] W) :
    CallsIn Fence.wide m Try.prog 41 #[.func (.yield l) #[] #[], .pointer (some ⟨bs, 0, none⟩), .pointer (some ⟨bb, 0, none⟩)] W fun e W' =>
      (∃ v, e = .returned v) ∧ BHeld bs bb a b c d s W' ∧ (J (covSeq a b c d s) W' ∨ ∃ pre, pre <+: covSeq a b c d s ∧ Jx pre W') := by
  obtain ⟨s1, s2⟩ := fits_iff.1 hf
  obtain ⟨i1, i2, h1, h2⟩ := boxOk_iff.1 hb
  obtain ⟨ax1, ax2, ay1, ay2⟩ : -1073741823 ≤ a ∧ a ≤ 1073741823 ∧ -1073741823 ≤ b ∧ b ≤ 1073741823 := of_decide_eq_true i1
  obtain ⟨cx1, cx2, cy1, cy2⟩ : -1073741823 ≤ c ∧ c ≤ 1073741823 ∧ -1073741823 ≤ d ∧ d ≤ 1073741823 := of_decide_eq_true i2
  have HX := Lib.hid (fun w => show Calls Try.prog 39 #[.agg #[.int .i32 a, .int .i32 b, .int .i32 c, .int .i32 d]] w fun e w' => e = .returned (.bool true) ∧ Fr [] w w' from hb ▸ isBox_any w a b c d)
  have HS := Lib.hid (fun w => show Calls Try.prog 31 #[.int .i64 s] w fun e w' => e = .returned (.bool true) ∧ w = w' from hf ▸ isSize_any w s)
  have HP := Lib.hid (show ∀ w, Calls Try.prog 33 #[.agg #[.int .i32 a, .int .i32 b], .int .i64 s] w fun e w' => e = .returned (.agg #[.int .i32 (a / s), .int .i32 (b / s)]) ∧ Fr [] w w' from fun w => of_any w a b s (by unfold I32; omega) (by unfold I32; omega) s1 s2)
  have HQ := Lib.hid (show ∀ w, Calls Try.prog 33 #[.agg #[.int .i32 c, .int .i32 d], .int .i64 s] w fun e w' => e = .returned (.agg #[.int .i32 (c / s), .int .i32 (d / s)]) ∧ Fr [] w w' from fun w => of_any w c d s (by unfold I32; omega) (by unfold I32; omega) s1 s2)
  have HSEQ := Lib.hid (show covSeq a b c d s = covRows (a / s) (c / s) (upTo (b / s) (d / s)) from if_pos ⟨hf, hb⟩)
  have DB : (-1073741823 ≤ a / s ∧ a / s ≤ 1073741823) ∧ (-1073741823 ≤ b / s ∧ b / s ≤ 1073741823) ∧ (-1073741823 ≤ c / s ∧ c / s ≤ 1073741823) ∧ (-1073741823 ≤ d / s ∧ d / s ≤ 1073741823) ∧ a / s ≤ c / s ∧ b / s ≤ d / s :=
    ⟨ediv_bd a s 1073741823 (by omega) (by omega) (by omega) (by omega), ediv_bd b s 1073741823 (by omega) (by omega) (by omega) (by omega), ediv_bd c s 1073741823 (by omega) (by omega) (by omega) (by omega), ediv_bd d s 1073741823 (by omega) (by omega) (by omega) (by omega), Int.ediv_le_ediv (by omega) h1, Int.ediv_le_ediv (by omega) h2⟩
  have HDB := Lib.hid DB
  have HY := Lib.hid hY
  have HJ := Lib.hid (And.intro hJ (And.intro hJx (And.intro hA hD)))
  clear hY hf hb i1 i2 h1 h2 ax1 ax2 ay1 ay2 cx1 cx2 cy1 cy2 s1 s2 DB hJ hJx hA hD
  refine callsIn_of_wp_marks Try.func41 rfl trivial ?_ rfl
  simp only [Try.ntmps41, List.size_toArray, List.length_cons, List.length_nil, Nat.reduceAdd, Nat.reduceSub, Array.replicate_succ, Array.replicate_zero, List.push_toArray, List.append_toArray, List.nil_append, List.cons_append]
  refine wpIn_wide.2 ?_
  have hf0 : Fr [] W (W.alloc (.cells #[.func (.yield l) #[] #[]] 56)) := (Fr.refl [] W).alloc _
  have hh1 := hh.fr hf0
  have s0 := hh1.s.at 0 (v := .int .i64 s) rfl
  have b0 := hh1.b.at 0 (v := .int .i32 a) rfl
  have b1 := hh1.b.at 1 (v := .int .i32 b) rfl
  have b2 := hh1.b.at 2 (v := .int .i32 c) rfl
  have b3 := hh1.b.at 3 (v := .int .i32 d) rfl
  go_wp2_with fail
  (with_reducible refine (HS.out _).mono ?_)
  rintro e w1 ⟨rfl, rfl⟩
  go_wp2_with fail
  (with_reducible refine (HX.out _).mono ?_)
  rintro e w1 ⟨rfl, f1⟩
  have HF := Lib.hid (hf0.trans f1 (by simp))
  have HB3 := Lib.hid (f1.blk (Blk.new W #[.func (.yield l) #[] #[]] 56) (by simp))
  have hh2 := hh.fr HF.out
  have SS := Lib.hid (show ∀ W', Fr [] w1 W' → W'.cell? ⟨bb, 0, none⟩ = some (.int .i32 a) ∧ W'.cell? ⟨bb, 1, none⟩ = some (.int .i32 b) ∧ W'.cell? ⟨bb, 2, none⟩ = some (.int .i32 c) ∧ W'.cell? ⟨bb, 3, none⟩ = some (.int .i32 d) ∧ W'.cell? ⟨bs, 0, none⟩ = some (.int .i64 s) from fun W' f => ⟨(f.blk hh2.b (by simp)).at 0 rfl, (f.blk hh2.b (by simp)).at 1 rfl, (f.blk hh2.b (by simp)).at 2 rfl, (f.blk hh2.b (by simp)).at 3 rfl, (f.blk hh2.s (by simp)).at 0 rfl⟩)
  have HH := Lib.hid hh2
  clear f1 hf0 hh1 hh2 hh b0 b1 b2 b3 s0 HX HS
  obtain ⟨z3, hz3⟩ : ∃ z, z = W.heap.size := ⟨_, rfl⟩
  rw [← hz3] at HB3
  go_upto_region 2 with fail
  simp only [← hz3]
  have HZ := Lib.hid hz3
  clear hz3
  go_cut [4, 5] from 16 to 23 (fun s4 s5 wx => ∃ z1 z2, s4 = .pointer (some ⟨z1, 0, none⟩) ∧ s5 = .pointer (some ⟨z2, 0, none⟩) ∧ w1.heap.size ≤ z1 ∧ w1.heap.size ≤ z2 ∧ Blk wx z1 #[.int .i32 (a / s), .int .i32 (b / s)] 33 ∧ Blk wx z2 #[.int .i32 (c / s), .int .i32 (d / s)] 33 ∧ Fr [] w1 wx)
  case first =>
    refine region_inv (by kernel_rfl) (by kernel_rfl) (Rg (fun x4 x5 x16 x17 x18 x19 x20 x21 x22 x23 => #[.func (.yield l) #[] #[], .pointer (some ⟨bs, 0, none⟩), .pointer (some ⟨bb, 0, none⟩), .pointer (some ⟨z3, 0, none⟩), x4, x5, undef, undef, .int .i64 s, .bool true, .bool false, .bool false, .agg #[.int .i32 a, .int .i32 b, .int .i32 c, .int .i32 d], .bool true, .bool false, .bool false, x16, x17, x18, x19, x20, x21, x22, x23, undef, undef, undef, undef, undef, undef, undef, undef, undef, undef, undef, undef, undef, undef, undef, undef, undef, undef, undef, undef, undef, undef, undef, undef]) w1 bb a b c d s) ?_ ?_ ?_
    · refine ⟨⟨_, _, _, _, _, _, _, _, _, _, rfl, ?_⟩, (Fr.refl _ _).drew⟩
      simp
    · intro p x W i hi hnp hd hI
      obtain ⟨⟨x4, x5, x16, x17, x18, x19, x20, x21, x22, x23, rfl, g0, g1, g2, g3, g4, g5, g6, g7, g8, g9, g89, gc10, gc11⟩, hfr⟩ := hI
      obtain ⟨c0, c1, c2, c3, c4⟩ := SS.out W hfr
      have hcases : i = 0 ∨ i = 1 ∨ i = 2 ∨ i = 3 ∨ i = 4 ∨ i = 5 ∨ i = 6 ∨ i = 7 ∨ i = 8 ∨ i = 9 ∨ i = 10 ∨ i = 11 := by
        have h12 : i < 12 := hi
        omega
      rcases hcases with rfl | rfl | rfl | rfl | rfl | rfl | rfl | rfl | rfl | rfl | rfl | rfl
      · refine wpOp_plain (i := 0) rfl rfl (fun K' hK => ?_)
        unfold Oper.wp
        go_simp
        refine hK _ _ ⟨⟨_, _, _, _, _, _, _, _, _, _, rfl, (fun _ => rfl), (fun h => g1 (h.resolve_right (by decide))), (fun h => g2 (h.resolve_right (by decide))), (fun h => g3 (h.resolve_right (by decide))), (fun h => g4 (h.resolve_right (by decide))), (fun h => g5 (h.resolve_right (by decide))), (fun h => g6 (h.resolve_right (by decide))), (fun h => g7 (h.resolve_right (by decide))), (fun h => (g8 (h.resolve_right (by decide))).of_iff ⟨fun h => h.resolve_right (by decide), .inl⟩), (fun h => (g9 (h.resolve_right (by decide))).of_iff ⟨fun h => h.resolve_right (by decide), .inl⟩), (fun h k => g89 (h.resolve_right (by decide)) (k.resolve_right (by decide))), (fun h => .inl (gc10 (h.resolve_right (by decide)))), (fun h => .inl (gc11 (h.resolve_right (by decide))))⟩, hfr⟩
      · refine wpOp_plain (i := 1) rfl rfl (fun K' hK => ?_)
        have r0 := g0 (hd _ rfl ⟨0, .data⟩ (by simp) rfl)
        subst r0
        unfold Oper.wp
        go_simp
        refine hK _ _ ⟨⟨_, _, _, _, _, _, _, _, _, _, rfl, (fun h => g0 (h.resolve_right (by decide))), (fun _ => rfl), (fun h => g2 (h.resolve_right (by decide))), (fun h => g3 (h.resolve_right (by decide))), (fun h => g4 (h.resolve_right (by decide))), (fun h => g5 (h.resolve_right (by decide))), (fun h => g6 (h.resolve_right (by decide))), (fun h => g7 (h.resolve_right (by decide))), (fun h => (g8 (h.resolve_right (by decide))).of_iff ⟨fun h => h.resolve_right (by decide), .inl⟩), (fun h => (g9 (h.resolve_right (by decide))).of_iff ⟨fun h => h.resolve_right (by decide), .inl⟩), (fun h k => g89 (h.resolve_right (by decide)) (k.resolve_right (by decide))), (fun h => .inl (gc10 (h.resolve_right (by decide)))), (fun h => .inl (gc11 (h.resolve_right (by decide))))⟩, hfr⟩
      · refine wpOp_plain (i := 2) rfl rfl (fun K' hK => ?_)
        unfold Oper.wp
        go_simp
        refine hK _ _ ⟨⟨_, _, _, _, _, _, _, _, _, _, rfl, (fun h => g0 (h.resolve_right (by decide))), (fun h => g1 (h.resolve_right (by decide))), (fun _ => rfl), (fun h => g3 (h.resolve_right (by decide))), (fun h => g4 (h.resolve_right (by decide))), (fun h => g5 (h.resolve_right (by decide))), (fun h => g6 (h.resolve_right (by decide))), (fun h => g7 (h.resolve_right (by decide))), (fun h => (g8 (h.resolve_right (by decide))).of_iff ⟨fun h => h.resolve_right (by decide), .inl⟩), (fun h => (g9 (h.resolve_right (by decide))).of_iff ⟨fun h => h.resolve_right (by decide), .inl⟩), (fun h k => g89 (h.resolve_right (by decide)) (k.resolve_right (by decide))), (fun h => .inl (gc10 (h.resolve_right (by decide)))), (fun h => .inl (gc11 (h.resolve_right (by decide))))⟩, hfr⟩
      · refine wpOp_plain (i := 3) rfl rfl (fun K' hK => ?_)
        have r1 := g1 (hd _ rfl ⟨1, .data⟩ (by simp) rfl)
        subst r1
        have r2 := g2 (hd _ rfl ⟨2, .data⟩ (by simp) rfl)
        subst r2
        unfold Oper.wp
        go_simp
        (with_reducible refine (HP.out _).mono ?_)
        rintro e w9 ⟨rfl, f⟩
        refine hK _ _ ⟨⟨_, _, _, _, _, _, _, _, _, _, rfl, (fun h => g0 (h.resolve_right (by decide))), (fun h => g1 (h.resolve_right (by decide))), (fun h => g2 (h.resolve_right (by decide))), (fun _ => rfl), (fun h => g4 (h.resolve_right (by decide))), (fun h => g5 (h.resolve_right (by decide))), (fun h => g6 (h.resolve_right (by decide))), (fun h => g7 (h.resolve_right (by decide))), (fun h => ((g8 (h.resolve_right (by decide))).fr f).of_iff ⟨fun h => h.resolve_right (by decide), .inl⟩), (fun h => ((g9 (h.resolve_right (by decide))).fr f).of_iff ⟨fun h => h.resolve_right (by decide), .inl⟩), (fun h k => g89 (h.resolve_right (by decide)) (k.resolve_right (by decide))), (fun h => .inl (gc10 (h.resolve_right (by decide)))), (fun h => .inl (gc11 (h.resolve_right (by decide))))⟩, (hfr.trans f (by simp))⟩
      · refine wpOp_plain (i := 4) rfl rfl (fun K' hK => ?_)
        unfold Oper.wp
        go_simp
        refine hK _ _ ⟨⟨_, _, _, _, _, _, _, _, _, _, rfl, (fun h => g0 (h.resolve_right (by decide))), (fun h => g1 (h.resolve_right (by decide))), (fun h => g2 (h.resolve_right (by decide))), (fun h => g3 (h.resolve_right (by decide))), (fun _ => rfl), (fun h => g5 (h.resolve_right (by decide))), (fun h => g6 (h.resolve_right (by decide))), (fun h => g7 (h.resolve_right (by decide))), (fun h => (g8 (h.resolve_right (by decide))).of_iff ⟨fun h => h.resolve_right (by decide), .inl⟩), (fun h => (g9 (h.resolve_right (by decide))).of_iff ⟨fun h => h.resolve_right (by decide), .inl⟩), (fun h k => g89 (h.resolve_right (by decide)) (k.resolve_right (by decide))), (fun h => .inl (gc10 (h.resolve_right (by decide)))), (fun h => .inl (gc11 (h.resolve_right (by decide))))⟩, hfr⟩
      · refine wpOp_plain (i := 5) rfl rfl (fun K' hK => ?_)
        have r4 := g4 (hd _ rfl ⟨4, .data⟩ (by simp) rfl)
        subst r4
        unfold Oper.wp
        go_simp
        refine hK _ _ ⟨⟨_, _, _, _, _, _, _, _, _, _, rfl, (fun h => g0 (h.resolve_right (by decide))), (fun h => g1 (h.resolve_right (by decide))), (fun h => g2 (h.resolve_right (by decide))), (fun h => g3 (h.resolve_right (by decide))), (fun h => g4 (h.resolve_right (by decide))), (fun _ => rfl), (fun h => g6 (h.resolve_right (by decide))), (fun h => g7 (h.resolve_right (by decide))), (fun h => (g8 (h.resolve_right (by decide))).of_iff ⟨fun h => h.resolve_right (by decide), .inl⟩), (fun h => (g9 (h.resolve_right (by decide))).of_iff ⟨fun h => h.resolve_right (by decide), .inl⟩), (fun h k => g89 (h.resolve_right (by decide)) (k.resolve_right (by decide))), (fun h => .inl (gc10 (h.resolve_right (by decide)))), (fun h => .inl (gc11 (h.resolve_right (by decide))))⟩, hfr⟩
      · refine wpOp_plain (i := 6) rfl rfl (fun K' hK => ?_)
        unfold Oper.wp
        go_simp
        refine hK _ _ ⟨⟨_, _, _, _, _, _, _, _, _, _, rfl, (fun h => g0 (h.resolve_right (by decide))), (fun h => g1 (h.resolve_right (by decide))), (fun h => g2 (h.resolve_right (by decide))), (fun h => g3 (h.resolve_right (by decide))), (fun h => g4 (h.resolve_right (by decide))), (fun h => g5 (h.resolve_right (by decide))), (fun _ => rfl), (fun h => g7 (h.resolve_right (by decide))), (fun h => (g8 (h.resolve_right (by decide))).of_iff ⟨fun h => h.resolve_right (by decide), .inl⟩), (fun h => (g9 (h.resolve_right (by decide))).of_iff ⟨fun h => h.resolve_right (by decide), .inl⟩), (fun h k => g89 (h.resolve_right (by decide)) (k.resolve_right (by decide))), (fun h => .inl (gc10 (h.resolve_right (by decide)))), (fun h => .inl (gc11 (h.resolve_right (by decide))))⟩, hfr⟩
      · refine wpOp_plain (i := 7) rfl rfl (fun K' hK => ?_)
        have r5 := g5 (hd _ rfl ⟨5, .data⟩ (by simp) rfl)
        subst r5
        have r6 := g6 (hd _ rfl ⟨6, .data⟩ (by simp) rfl)
        subst r6
        unfold Oper.wp
        go_simp
        (with_reducible refine (HQ.out _).mono ?_)
        rintro e w9 ⟨rfl, f⟩
        refine hK _ _ ⟨⟨_, _, _, _, _, _, _, _, _, _, rfl, (fun h => g0 (h.resolve_right (by decide))), (fun h => g1 (h.resolve_right (by decide))), (fun h => g2 (h.resolve_right (by decide))), (fun h => g3 (h.resolve_right (by decide))), (fun h => g4 (h.resolve_right (by decide))), (fun h => g5 (h.resolve_right (by decide))), (fun h => g6 (h.resolve_right (by decide))), (fun _ => rfl), (fun h => ((g8 (h.resolve_right (by decide))).fr f).of_iff ⟨fun h => h.resolve_right (by decide), .inl⟩), (fun h => ((g9 (h.resolve_right (by decide))).fr f).of_iff ⟨fun h => h.resolve_right (by decide), .inl⟩), (fun h k => g89 (h.resolve_right (by decide)) (k.resolve_right (by decide))), (fun h => .inl (gc10 (h.resolve_right (by decide)))), (fun h => .inl (gc11 (h.resolve_right (by decide))))⟩, (hfr.trans f (by simp))⟩
      · refine wpOp_plain (i := 8) rfl rfl (fun K' hK => ?_)
        unfold Oper.wp
        go_simp
        have n10 : ¬ p 10 := fun h => hnp (gc10 h)
        refine hK _ _ ⟨⟨_, _, _, _, _, _, _, _, _, _, rfl, (fun h => g0 (h.resolve_right (by decide))), (fun h => g1 (h.resolve_right (by decide))), (fun h => g2 (h.resolve_right (by decide))), (fun h => g3 (h.resolve_right (by decide))), (fun h => g4 (h.resolve_right (by decide))), (fun h => g5 (h.resolve_right (by decide))), (fun h => g6 (h.resolve_right (by decide))), (fun h => g7 (h.resolve_right (by decide))), (fun _ => ⟨_, rfl, hfr.size, fun h => absurd (h.resolve_right (by decide)) n10, fun _ => Blk.new W _ _⟩), (fun h => ((g9 (h.resolve_right (by decide))).fr ((Fr.refl [] W).alloc _)).of_iff ⟨fun h => h.resolve_right (by decide), .inl⟩), (fun _ k e => by have q := g9 (k.resolve_right (by decide)); rw [← e] at q; exact absurd q.lt (Nat.lt_irrefl _)), (fun h => absurd (h.resolve_right (by decide)) n10), (fun h => .inl (gc11 (h.resolve_right (by decide))))⟩, (hfr.alloc _)⟩
      · refine wpOp_plain (i := 9) rfl rfl (fun K' hK => ?_)
        unfold Oper.wp
        go_simp
        have n11 : ¬ p 11 := fun h => hnp (gc11 h)
        refine hK _ _ ⟨⟨_, _, _, _, _, _, _, _, _, _, rfl, (fun h => g0 (h.resolve_right (by decide))), (fun h => g1 (h.resolve_right (by decide))), (fun h => g2 (h.resolve_right (by decide))), (fun h => g3 (h.resolve_right (by decide))), (fun h => g4 (h.resolve_right (by decide))), (fun h => g5 (h.resolve_right (by decide))), (fun h => g6 (h.resolve_right (by decide))), (fun h => g7 (h.resolve_right (by decide))), (fun h => ((g8 (h.resolve_right (by decide))).fr ((Fr.refl [] W).alloc _)).of_iff ⟨fun h => h.resolve_right (by decide), .inl⟩), (fun _ => ⟨_, rfl, hfr.size, fun h => absurd (h.resolve_right (by decide)) n11, fun _ => Blk.new W _ _⟩), (fun k _ e => by have q := g8 (k.resolve_right (by decide)); rw [e] at q; exact absurd q.lt (Nat.lt_irrefl _)), (fun h => .inl (gc10 (h.resolve_right (by decide)))), (fun h => absurd (h.resolve_right (by decide)) n11)⟩, (hfr.alloc _)⟩
      · refine wpOp_plain (i := 10) rfl rfl (fun K' hK => ?_)
        have r3 := g3 (hd _ rfl ⟨3, .data⟩ (by simp) rfl)
        subst r3
        have p8 := hd _ rfl ⟨8, .data⟩ (by simp) rfl
        obtain ⟨zz, rfl, hz2, _, hz4⟩ := g8 p8
        have hbz := hz4 hnp
        have k0 := hbz.at 0 (v := .int .i32 0) rfl
        have k1 := hbz.at 1 (v := .int .i32 0) rfl
        have m0 := hbz.free 0
        have m1 := hbz.free 1
        unfold Oper.wp
        go_simp
        refine hK _ _ ⟨⟨_, _, _, _, _, _, _, _, _, _, rfl, (fun h => g0 (h.resolve_right (by decide))), (fun h => g1 (h.resolve_right (by decide))), (fun h => g2 (h.resolve_right (by decide))), (fun h => g3 (h.resolve_right (by decide))), (fun h => g4 (h.resolve_right (by decide))), (fun h => g5 (h.resolve_right (by decide))), (fun h => g6 (h.resolve_right (by decide))), (fun h => g7 (h.resolve_right (by decide))), (fun _ => ⟨_, rfl, hz2, fun _ => hbz.pair, fun h => absurd (.inr rfl) h⟩), (fun h => ((g9 (h.resolve_right (by decide))).other (fun e => g89 p8 (h.resolve_right (by decide)) e.symm) _ _).of_iff ⟨fun h => h.resolve_right (by decide), .inl⟩), (fun h k => g89 (h.resolve_right (by decide)) (k.resolve_right (by decide))), (fun _ => .inl p8), (fun h => .inl (gc11 (h.resolve_right (by decide))))⟩, ((hfr.setCell _ _ (.inr hz2)).setCell _ _ (.inr hz2))⟩
      · refine wpOp_plain (i := 11) rfl rfl (fun K' hK => ?_)
        have r7 := g7 (hd _ rfl ⟨7, .data⟩ (by simp) rfl)
        subst r7
        have p9 := hd _ rfl ⟨9, .data⟩ (by simp) rfl
        obtain ⟨zz, rfl, hz2, _, hz4⟩ := g9 p9
        have hbz := hz4 hnp
        have k0 := hbz.at 0 (v := .int .i32 0) rfl
        have k1 := hbz.at 1 (v := .int .i32 0) rfl
        have m0 := hbz.free 0
        have m1 := hbz.free 1
        unfold Oper.wp
        go_simp
        refine hK _ _ ⟨⟨_, _, _, _, _, _, _, _, _, _, rfl, (fun h => g0 (h.resolve_right (by decide))), (fun h => g1 (h.resolve_right (by decide))), (fun h => g2 (h.resolve_right (by decide))), (fun h => g3 (h.resolve_right (by decide))), (fun h => g4 (h.resolve_right (by decide))), (fun h => g5 (h.resolve_right (by decide))), (fun h => g6 (h.resolve_right (by decide))), (fun h => g7 (h.resolve_right (by decide))), (fun h => ((g8 (h.resolve_right (by decide))).other (g89 (h.resolve_right (by decide)) p9) _ _).of_iff ⟨fun h => h.resolve_right (by decide), .inl⟩), (fun _ => ⟨_, rfl, hz2, fun _ => hbz.pair, fun h => absurd (.inr rfl) h⟩), (fun h k => g89 (h.resolve_right (by decide)) (k.resolve_right (by decide))), (fun h => .inl (gc10 (h.resolve_right (by decide)))), (fun _ => .inl p9)⟩, ((hfr.setCell _ _ (.inr hz2)).setCell _ _ (.inr hz2))⟩
    · intro p x W i hI
      obtain ⟨⟨x4, x5, x16, x17, x18, x19, x20, x21, x22, x23, rfl, -, -, -, -, -, -, -, -, g8, g9, -, -, -⟩, hfr⟩ := hI
      obtain ⟨z1, rfl, m1, q1, _⟩ := g8 (i 8 (by decide))
      obtain ⟨z2, rfl, m2, q2, _⟩ := g9 (i 9 (by decide))
      have Q1 := q1 (i 10 (by decide))
      have Q2 := q2 (i 11 (by decide))
      simp only [Exit.then]
      go_wp2_with fail
      go_meet
      case rel => exact ⟨_, _, rfl, rfl, m1, m2, Q1, Q2, hfr⟩
  case rest =>
    obtain ⟨z1, z2, rfl, rfl, m1, m2, q1, q2, hg⟩ := hcut
    have HC0 := HF.out.trans hg (by simp)
    have hA0 := HJ.out.2.2.1
    have hCI : CI z3 z1 z2 bs bb B l (a / s) (b / s) (c / s) (d / s) a b c d s wc := by
      refine ⟨HH.out.fr hg, hg.blk HB3.out (by simp), q1, q2, ?_⟩
      obtain ⟨v, hv1, hv2⟩ := hA0
      refine ⟨v, HC0.blk hv1 (by simp), fun g e => ?_⟩
      have h9 := (hv2 g e).1
      have h8 := HF.out.size
      have h7 := HC0.size
      refine ⟨by omega, fun hm => ?_⟩
      simp at hm
      rcases hm with rfl | rfl <;> omega
    have hJc := HJ.out.1.fr h0 HC0
    have HCI := Lib.hid hCI
    have HJC := Lib.hid hJc
    have HFC := Lib.hid HC0
    have k0 := q1.at 0 (v := .int .i32 (a / s)) rfl
    have k1 := q1.at 1 (v := .int .i32 (b / s)) rfl
    have k2 := q2.at 0 (v := .int .i32 (c / s)) rfl
    have k3 := q2.at 1 (v := .int .i32 (d / s)) rfl
    have k4 := hCI.y.at 0 (v := .func (.yield l) #[] #[]) rfl
    clear hCI hJc HC0 hA0 q1 q2 hg h0 HP HQ HF HB3 HH SS m1 m2
    rename_i aK
    refine aK _ _ ?_
    clear aK
    refine (wpIn_wide (n := m)).1 ?_
    generalize a / s = fx at *
    generalize b / s = fy at *
    generalize c / s = tx at *
    generalize d / s = ty at *
    by_cases he : fx = tx ∧ fy = ty
    · obtain ⟨rfl, rfl⟩ := he
      have hseq : covSeq a b c d s = [(fx, fy)] := by
        rw [HSEQ.out]
        unfold covRows covRow upTo
        rw [show (fy + 1 - fy).toNat = 1 by omega, show (fx + 1 - fx).toNat = 1 by omega]
        simp
      obtain ⟨f, tm, asg, body, hy, hR⟩ := HY.out [] (fx, fy) wc HJC.out (by rw [hseq]; simp)
      simp only [cellArg, pt] at hy
      have HR := Lib.hid hR
      have HSQ := Lib.hid hseq
      clear hR hseq
      gi_wp2
      refine ⟨fun h => by simp [Fence.wide] at h, HR.out.mono ?_⟩
      rintro e W3 ⟨hk3, (⟨rfl, hJ3⟩ | ⟨rfl, hJx3⟩)⟩
      · have HK3 := Lib.hid (And.intro hk3 hJ3)
        clear hk3 hJ3
        gi_wp2
        exact ⟨_, results_none rfl _ _ _, ⟨_, rfl⟩, (HCI.out.kp HK3.out.1).h, .inl (by rw [HSQ.out]; exact HK3.out.2)⟩
      · have HK3 := Lib.hid (And.intro hk3 hJx3)
        clear hk3 hJx3
        gi_wp2
        exact ⟨_, results_none rfl _ _ _, ⟨_, rfl⟩, (HCI.out.kp HK3.out.1).h, .inr ⟨_, List.prefix_rfl, by rw [HSQ.out]; exact HK3.out.2⟩⟩
    · by_cases hfx : fx = tx
      · obtain rfl := hfx
        have hne : ¬ (fy = ty) := fun h => he ⟨rfl, h⟩
        clear he
        gi_wp2
        clear hne
        refine ⟨trivial, fun h => by simp [Fence.wide] at h, (callsIn_wide.2 (between_any wc fy ty)).mono ?_⟩
        rintro e w2 ⟨rfl, hen, f2⟩
        have hCI2 := HCI.out.fr f2
        have hJ2 := HJ.out.1.fr HJC.out f2
        have F2 := Lib.hid (HFC.out.trans f2 (by simp))
        have hws := f2.size
        have hs2 := F2.out.size
        have HEN := Lib.hid hen
        have HST := Lib.hid (And.intro hCI2 hJ2)
        clear k0 k1 k2 k3 k4 hCI2 hJ2 f2 hen
        gi_wp2
        obtain ⟨hx1, hx2, hx3, hx4, hx5, hx6⟩ := HDB.out
        refine wpIn_range (w := w2) (ps := #[35]) rfl (by omega) (gf := 46) (lb := #[.pointer (some ⟨wc.heap.size, 0, none⟩), .pointer (some ⟨wc.heap.size + 1, 0, none⟩)]) rfl trivial (by intros; rfl)
          ((between_tells (m - 1) wc.heap.size (wc.heap.size + 1) (w2.heap.size + 2) tsC (by simp) fy ty (by unfold I32; omega) (by omega)).kp (Kp' := KpC tsC (w2.heap.size + 2) B) (fun _ _ k => k.1))
          KpC.trans (fun W l o o' hl h1 h2 => KpC.put o' h1 h2 (by omega)) (fun W f hs => ⟨f.blk HEN.out.1 (by simp), f.blk HEN.out.2 (by simp)⟩) (fun W l o o' hl h1 h2 h3 => ⟨h3.1.putObj h1 h2 o', h3.2.putObj h1 h2 o'⟩) (by simp) (fun _ => rfl)
          (fun pre W => J (covRows fx fx pre) W ∧ CI z3 z1 z2 bs bb B l fx fy fx ty a b c d s W)
          (fun q pre W => q = .ret ∧ ∃ L, L <+: covRows fx fx pre ∧ Jx L W ∧ CI z3 z1 z2 bs bb B l fx fy fx ty a b c d s W)
          ?hI ?hIx HST.out.symm
          (fun y a' W => ∃ b6, Blk W b6 #[.int .i32 y] 21 ∧ a' = { tmps := #[.func (.yield l) #[] #[], .pointer (some ⟨bs, 0, none⟩), .pointer (some ⟨bb, 0, none⟩), .pointer (some ⟨z3, 0, none⟩), .pointer (some ⟨z1, 0, none⟩), .pointer (some ⟨z2, 0, none⟩), .pointer (some ⟨b6, 0, none⟩), undef, .int .i64 s, .bool true, .bool false, .bool false, .agg #[.int .i32 a, .int .i32 b, .int .i32 c, .int .i32 d], .bool true, .bool false, .bool false, u16, u17, u18, u19, u20, u21, u22, u23, .agg #[.int .i32 fx, .int .i32 fy], .agg #[.int .i32 fx, .int .i32 ty], .bool false, undef, undef, undef, .pointer (some ⟨z1, 1, none⟩), .int .i32 fy, .pointer (some ⟨z2, 1, none⟩), .int .i32 ty, .func (.func 46) #[] #[.pointer (some ⟨wc.heap.size, 0, none⟩), .pointer (some ⟨wc.heap.size + 1, 0, none⟩)], .int .i32 y, undef, undef, undef, undef, undef, undef, undef, undef, undef, undef, undef, undef], defers := [] })
          ?hAx ?hassign ?hbody ?hdone ?hstop
        case hI =>
          intro pre A A' row h hg hr
          exact ⟨(HJ.out.1.up hs2) _ A A' row h.1 hg hr, h.2.ab hg hr⟩
        case hIx =>
          intro q pre A A' row h hg hr
          obtain ⟨rfl, L, hL, h1, h2⟩ := h
          exact ⟨rfl, L, hL, (HJ.out.2.1.up hs2) L A A' row h1 hg hr, h2.ab hg hr⟩
        case hAx =>
          intro y a' u A A' row h hg hr
          obtain ⟨b6, h1, h2⟩ := h
          exact ⟨b6, blk_ab (Rs := []) hg (fun r hr' => .inr (hr r hr')) h1 (by simp), h2⟩
        case hassign =>
          intro l' pre y W' K hI hK
          have hf : Fr [] W' (W'.alloc (.cells #[.int .i32 y] 21)) := (Fr.refl _ _).alloc _
          have hJ' := HJ.out.1.fr hI.1 hf
          have hC' := hI.2.fr hf
          have HK := Lib.hid (hK _ _ (kf_of_fr w2.heap.size hf (by simp)) (KpC.of_fr hf) ⟨hJ', hC'⟩ ⟨_, Blk.new W' _ _, rfl⟩)
          clear hK hI hJ' hC'
          simp only [intArg, List.zip_toArray, Array.foldl]
          gi_wp2
          exact HK.out
        case hbody =>
          rintro l' pre y a' W1 hl ⟨r, hr⟩ hI ⟨b6, hb6, rfl⟩ hN
          have k0 := hI.2.p.at 0 (v := .int .i32 fx) rfl
          have k1 := hI.2.p.at 1 (v := .int .i32 fy) rfl
          have k2 := hI.2.q.at 0 (v := .int .i32 fx) rfl
          have k3 := hI.2.q.at 1 (v := .int .i32 ty) rfl
          have HI := Lib.hid (And.intro hI (And.intro hb6 (And.intro hr hN)))
          clear hI hb6 hr hN
          gi_wp2
          refine ⟨trivial, fun h => by simp [Fence.wide] at h, ?_⟩
          show CallsIn Fence.wide (m - 1 - 1 - 1) Try.prog 42 _ _ _
          refine (callsIn_wide.2 (between_any W1 fx fx)).mono ?_
          rintro e w3 ⟨rfl, hen3, f3⟩
          have hs3 := f3.size
          have hl1 := (Array.getElem?_eq_some_iff.1 HI.out.2.2.1).1
          have HE3 := Lib.hid hen3
          have hr3 := (kf_of_fr 0 f3 (by simp)).same l' _ (Nat.zero_le _) HI.out.2.2.1 rfl
          have F3 := Lib.hid f3
          clear k0 k1 k2 k3 hen3 f3
          gi_wp2
          refine wpIn_range_in (w := w3) (ps := #[41]) (l₀ := l') rfl hr3 (by omega) (gf := 46) (lb := #[.pointer (some ⟨W1.heap.size, 0, none⟩), .pointer (some ⟨W1.heap.size + 1, 0, none⟩)]) rfl trivial (by intros; rfl)
            (show Tells Fence.wide _ _ _ _ _ _ _ _ _ _ _ _ from (between_tells (m - 1 - 1 - 1) W1.heap.size (W1.heap.size + 1) (w3.heap.size + 1) tsC (by simp) fx fx (by unfold I32; omega) (by omega)).kp (Kp' := KpC tsC (w3.heap.size + 1) B) (fun _ _ k => k.1))
            KpC.trans (fun W l o o' hl h1 h2 => KpC.put o' h1 h2 (by omega)) (fun W f hs => ⟨f.blk HE3.out.1 (by simp), f.blk HE3.out.2 (by simp)⟩) (fun W l o o' hl h1 h2 h3 => ⟨h3.1.putObj h1 h2 o', h3.2.putObj h1 h2 o'⟩) (by simp) (fun _ => rfl)
            (fun xs X => J (covRows fx fx pre ++ xs.map fun x => (x, y)) X ∧ CI z3 z1 z2 bs bb B l fx fy fx ty a b c d s X ∧ Blk X b6 #[.int .i32 y] 21 ∧ KeepsFrom w2.heap.size W1 X ∧ KpC tsC (w2.heap.size + 2) B W1 X)
            (fun q xs X => q = .ret ∧ Jx (covRows fx fx pre ++ xs.map fun x => (x, y)) X ∧ CI z3 z1 z2 bs bb B l fx fy fx ty a b c d s X ∧ KeepsFrom w2.heap.size W1 X ∧ KpC tsC (w2.heap.size + 2) B W1 X)
            ?iI ?iIx ?i0 (fun x a' W => a' = { tmps := #[.func (.yield l) #[] #[], .pointer (some ⟨bs, 0, none⟩), .pointer (some ⟨bb, 0, none⟩), .pointer (some ⟨z3, 0, none⟩), .pointer (some ⟨z1, 0, none⟩), .pointer (some ⟨z2, 0, none⟩), .pointer (some ⟨b6, 0, none⟩), .int .i32 x, .int .i64 s, .bool true, .bool false, .bool false, .agg #[.int .i32 a, .int .i32 b, .int .i32 c, .int .i32 d], .bool true, .bool false, .bool false, u16, u17, u18, u19, u20, u21, u22, u23, .agg #[.int .i32 fx, .int .i32 fy], .agg #[.int .i32 fx, .int .i32 ty], .bool false, undef, undef, undef, .pointer (some ⟨z1, 1, none⟩), .int .i32 fy, .pointer (some ⟨z2, 1, none⟩), .int .i32 ty, .func (.func 46) #[] #[.pointer (some ⟨wc.heap.size, 0, none⟩), .pointer (some ⟨wc.heap.size + 1, 0, none⟩)], .int .i32 y, .pointer (some ⟨z1, 0, none⟩), .int .i32 fx, .pointer (some ⟨z2, 0, none⟩), .int .i32 fx, .func (.func 46) #[] #[.pointer (some ⟨W1.heap.size, 0, none⟩), .pointer (some ⟨W1.heap.size + 1, 0, none⟩)], .int .i32 x, undef, undef, undef, undef, undef, undef], defers := [] })
            ?iAx ?iassign ?ibody ?idone ?istop
          case iI =>
            intro xs A A' row h hg hr
            exact ⟨(HJ.out.1.up (by omega)) _ A A' row h.1 hg hr, h.2.1.ab hg hr, blk_ab hg hr h.2.2.1 (by simp), KeepsFrom.ab hg hr hs3 h.2.2.2.1, ⟨KeepsTy.ab hg hr h.2.2.2.2.1.1, KeepsFrom.ab hg hr hs3 h.2.2.2.2.1.2⟩, KpB.ab hg hr h.2.2.2.2.2⟩
          case iIx =>
            intro q xs A A' row h hg hr
            exact ⟨h.1, (HJ.out.2.1.up (by omega)) _ A A' row h.2.1 hg hr, h.2.2.1.ab hg hr, KeepsFrom.ab hg hr hs3 h.2.2.2.1, ⟨KeepsTy.ab hg hr h.2.2.2.2.1.1, KeepsFrom.ab hg hr hs3 h.2.2.2.2.1.2⟩, KpB.ab hg hr h.2.2.2.2.2⟩
          case i0 =>
            refine ⟨?_, HI.out.1.2.fr F3.out, F3.out.blk HI.out.2.1 (by simp), kf_of_fr _ F3.out (by simp), KpC.of_fr F3.out⟩
            have := HJ.out.1.fr HI.out.1.1 F3.out
            simpa using this
          case iAx =>
            intro x a' u A A' row h hg hr
            exact h
          case iassign =>
            intro l2 xs x W' K hI hK
            have HK := Lib.hid (hK _ _ (KeepsFrom.refl _ _) (KpC.of_fr (Fr.refl _ _)) hI rfl)
            clear hK hI
            simp only [intArg, List.zip_toArray, Array.foldl]
            gi_wp2
            exact HK.out
          case ibody =>
            rintro l2 xs x a' W5 hl2 - hI2 rfl hN2
            have hlen : (covRows fx fx pre ++ xs.map fun x => (x, y)).length < (covSeq a b c d s).length := by
              rw [HSEQ.out, List.length_append, List.length_map, covRows_len, covRows_len]
              rw [upTo_len fx fx] at hN2
              have h1 := Nat.mul_le_mul_right (fx + 1 - fx).toNat (Nat.succ_le_of_lt HI.out.2.2.2)
              rw [Nat.succ_mul] at h1
              omega
            obtain ⟨f, tm, asg, body, hy, hR⟩ := yield_in (l' := l2) (yield_lv (n' := m - 1 - 1 - 1 - 1 - 1) (HY.out _ (x, y) W5 hI2.1 hlen))
            rw [List.append_assoc, show (xs.map fun x => (x, y)) ++ [(x, y)] = (xs ++ [x]).map fun x => (x, y) by simp] at hR
            have k4 := hI2.2.1.y.at 0 (v := .func (.yield l) #[] #[]) rfl
            have k5 := hI2.2.2.1.at 0 (v := .int .i32 y) rfl
            simp only [cellArg, pt] at hy
            have HR := Lib.hid hR
            have HI2 := Lib.hid hI2
            clear hR hlen hI2
            gi_wp2
            refine ⟨fun h => by simp [Fence.wide] at h, HR.out.mono ?_⟩
            rintro e W6 ⟨hk6, (⟨rfl, hJ6⟩ | ⟨rfl, hJx6⟩)⟩
            · have HK6 := Lib.hid (And.intro hk6 hJ6)
              clear hk6 hJ6
              gi_wp2
              have hDD := HJ.out.2.2.2
              obtain ⟨hk6, hJ6⟩ := HK6.out
              obtain ⟨i1, i2, i3, i4, i5⟩ := HI2.out
              exact ⟨kf_up hk6.1.2 (by omega), hk6.up (by omega), hJ6, i2.kp hk6, hk6.1.1 _ _ _ (by simp) i3, i4.trans (kf_up hk6.1.2 (by omega)), i5.trans (hk6.up (by omega))⟩
            · have HK6 := Lib.hid (And.intro hk6 hJx6)
              clear hk6 hJx6
              gi_wp2
              have hDD := HJ.out.2.2.2
              obtain ⟨hk6, hJ6⟩ := HK6.out
              obtain ⟨i1, i2, i3, i4, i5⟩ := HI2.out
              exact ⟨kf_up hk6.1.2 (by omega), hk6.up (by omega), rfl, hJ6, i2.kp hk6, i4.trans (kf_up hk6.1.2 (by omega)), i5.trans (hk6.up (by omega))⟩
          case idone =>
            rintro xs W3 rfl hI2 hen4
            have HI2 := Lib.hid hI2
            clear hI2 hen4
            gi_wp2
            obtain ⟨i1, i2, i3, i4, i5⟩ := HI2.out
            exact ⟨i4, i5, by rw [covRows_snoc]; exact i1, i2⟩
          case istop =>
            rintro q xs W3 hpre ⟨rfl, i1, i2, i4, i5⟩ hen4
            have HI2 := Lib.hid (And.intro hpre (And.intro i1 (And.intro i2 (And.intro i4 i5))))
            clear hpre i1 i2 i4 i5 hen4
            gi_wp2
            obtain ⟨hpre, i1, i2, i4, i5⟩ := HI2.out
            obtain ⟨z, hz⟩ := hpre
            refine ⟨i4, i5, rfl, _, ?_, i1, i2⟩
            rw [covRows_snoc]
            unfold covRow
            rw [← hz, List.map_append, ← List.append_assoc]
            exact List.prefix_append _ _
        case hdone =>
          rintro D0 xs W3 hD0 rfl hI hen3 hK
          have HH := Lib.hid (And.intro hI (And.intro hen3 hK))
          clear hI hen3 hK
          gi_wp2
          obtain ⟨hI, hen3, hK⟩ := HH.out
          refine ⟨by simp, .inl ⟨_, _, rfl, run_takeDeferred hK, ?_⟩⟩
          exact ⟨_, results_none rfl _ _ _, ⟨_, rfl⟩, ⟨hI.2.h.s.putObj hK rfl _, hI.2.h.b.putObj hK rfl _⟩, .inl (by rw [HSEQ.out]; exact HJ.out.1.put hI.1 hK (by omega) rfl _)⟩
        case hstop =>
          rintro D0 q pre W3 hD0 hpre ⟨rfl, L, hL, hJ3, hC3⟩ hen3 hK
          have HH := Lib.hid (And.intro hpre (And.intro hL (And.intro hJ3 (And.intro hC3 hK))))
          clear hpre hL hJ3 hC3 hen3 hK
          gi_wp2
          obtain ⟨hpre, hL, hJ3, hC3, hK⟩ := HH.out
          refine ⟨by simp, .inl ⟨_, _, rfl, run_takeDeferred hK, ?_⟩⟩
          exact ⟨_, results_none rfl _ _ _, ⟨_, rfl⟩, ⟨hC3.h.s.putObj hK rfl _, hC3.h.b.putObj hK rfl _⟩, .inr ⟨L, by rw [HSEQ.out]; exact hL.trans (covRows_prefix hpre), HJ.out.2.1.put hJ3 hK (by omega) rfl _⟩⟩
      · have hne := hfx
        clear he hfx
        gi_wp2
        clear hne
        refine ⟨trivial, fun h => by simp [Fence.wide] at h, (callsIn_wide.2 (between_any wc fy ty)).mono ?_⟩
        rintro e w2 ⟨rfl, hen, f2⟩
        have hCI2 := HCI.out.fr f2
        have hJ2 := HJ.out.1.fr HJC.out f2
        have F2 := Lib.hid (HFC.out.trans f2 (by simp))
        have hws := f2.size
        have hs2 := F2.out.size
        have HEN := Lib.hid hen
        have HST := Lib.hid (And.intro hCI2 hJ2)
        clear k0 k1 k2 k3 k4 hCI2 hJ2 f2 hen
        gi_wp2
        obtain ⟨hx1, hx2, hx3, hx4, hx5, hx6⟩ := HDB.out
        refine wpIn_range (w := w2) (ps := #[35]) rfl (by omega) (gf := 46) (lb := #[.pointer (some ⟨wc.heap.size, 0, none⟩), .pointer (some ⟨wc.heap.size + 1, 0, none⟩)]) rfl trivial (by intros; rfl)
          ((between_tells (m - 1) wc.heap.size (wc.heap.size + 1) (w2.heap.size + 2) tsC (by simp) fy ty (by unfold I32; omega) (by omega)).kp (Kp' := KpC tsC (w2.heap.size + 2) B) (fun _ _ k => k.1))
          KpC.trans (fun W l o o' hl h1 h2 => KpC.put o' h1 h2 (by omega)) (fun W f hs => ⟨f.blk HEN.out.1 (by simp), f.blk HEN.out.2 (by simp)⟩) (fun W l o o' hl h1 h2 h3 => ⟨h3.1.putObj h1 h2 o', h3.2.putObj h1 h2 o'⟩) (by simp) (fun _ => rfl)
          (fun pre W => J (covRows fx tx pre) W ∧ CI z3 z1 z2 bs bb B l fx fy tx ty a b c d s W)
          (fun q pre W => q = .ret ∧ ∃ L, L <+: covRows fx tx pre ∧ Jx L W ∧ CI z3 z1 z2 bs bb B l fx fy tx ty a b c d s W)
          ?hI ?hIx HST.out.symm
          (fun y a' W => ∃ b6, Blk W b6 #[.int .i32 y] 21 ∧ a' = { tmps := #[.func (.yield l) #[] #[], .pointer (some ⟨bs, 0, none⟩), .pointer (some ⟨bb, 0, none⟩), .pointer (some ⟨z3, 0, none⟩), .pointer (some ⟨z1, 0, none⟩), .pointer (some ⟨z2, 0, none⟩), .pointer (some ⟨b6, 0, none⟩), undef, .int .i64 s, .bool true, .bool false, .bool false, .agg #[.int .i32 a, .int .i32 b, .int .i32 c, .int .i32 d], .bool true, .bool false, .bool false, u16, u17, u18, u19, u20, u21, u22, u23, .agg #[.int .i32 fx, .int .i32 fy], .agg #[.int .i32 tx, .int .i32 ty], .bool false, undef, undef, undef, .pointer (some ⟨z1, 1, none⟩), .int .i32 fy, .pointer (some ⟨z2, 1, none⟩), .int .i32 ty, .func (.func 46) #[] #[.pointer (some ⟨wc.heap.size, 0, none⟩), .pointer (some ⟨wc.heap.size + 1, 0, none⟩)], .int .i32 y, undef, undef, undef, undef, undef, undef, undef, undef, undef, undef, undef, undef], defers := [] })
          ?hAx ?hassign ?hbody ?hdone ?hstop
        case hI =>
          intro pre A A' row h hg hr
          exact ⟨(HJ.out.1.up hs2) _ A A' row h.1 hg hr, h.2.ab hg hr⟩
        case hIx =>
          intro q pre A A' row h hg hr
          obtain ⟨rfl, L, hL, h1, h2⟩ := h
          exact ⟨rfl, L, hL, (HJ.out.2.1.up hs2) L A A' row h1 hg hr, h2.ab hg hr⟩
        case hAx =>
          intro y a' u A A' row h hg hr
          obtain ⟨b6, h1, h2⟩ := h
          exact ⟨b6, blk_ab (Rs := []) hg (fun r hr' => .inr (hr r hr')) h1 (by simp), h2⟩
        case hassign =>
          intro l' pre y W' K hI hK
          have hf : Fr [] W' (W'.alloc (.cells #[.int .i32 y] 21)) := (Fr.refl _ _).alloc _
          have hJ' := HJ.out.1.fr hI.1 hf
          have hC' := hI.2.fr hf
          have HK := Lib.hid (hK _ _ (kf_of_fr w2.heap.size hf (by simp)) (KpC.of_fr hf) ⟨hJ', hC'⟩ ⟨_, Blk.new W' _ _, rfl⟩)
          clear hK hI hJ' hC'
          simp only [intArg, List.zip_toArray, Array.foldl]
          gi_wp2
          exact HK.out
        case hbody =>
          rintro l' pre y a' W1 hl ⟨r, hr⟩ hI ⟨b6, hb6, rfl⟩ hN
          have k0 := hI.2.p.at 0 (v := .int .i32 fx) rfl
          have k1 := hI.2.p.at 1 (v := .int .i32 fy) rfl
          have k2 := hI.2.q.at 0 (v := .int .i32 tx) rfl
          have k3 := hI.2.q.at 1 (v := .int .i32 ty) rfl
          have HI := Lib.hid (And.intro hI (And.intro hb6 (And.intro hr hN)))
          clear hI hb6 hr hN
          gi_wp2
          refine ⟨trivial, fun h => by simp [Fence.wide] at h, ?_⟩
          show CallsIn Fence.wide (m - 1 - 1 - 1) Try.prog 42 _ _ _
          refine (callsIn_wide.2 (between_any W1 fx tx)).mono ?_
          rintro e w3 ⟨rfl, hen3, f3⟩
          have hs3 := f3.size
          have hl1 := (Array.getElem?_eq_some_iff.1 HI.out.2.2.1).1
          have HE3 := Lib.hid hen3
          have hr3 := (kf_of_fr 0 f3 (by simp)).same l' _ (Nat.zero_le _) HI.out.2.2.1 rfl
          have F3 := Lib.hid f3
          clear k0 k1 k2 k3 hen3 f3
          gi_wp2
          refine wpIn_range_in (w := w3) (ps := #[41]) (l₀ := l') rfl hr3 (by omega) (gf := 46) (lb := #[.pointer (some ⟨W1.heap.size, 0, none⟩), .pointer (some ⟨W1.heap.size + 1, 0, none⟩)]) rfl trivial (by intros; rfl)
            (show Tells Fence.wide _ _ _ _ _ _ _ _ _ _ _ _ from (between_tells (m - 1 - 1 - 1) W1.heap.size (W1.heap.size + 1) (w3.heap.size + 1) tsC (by simp) fx tx (by unfold I32; omega) (by omega)).kp (Kp' := KpC tsC (w3.heap.size + 1) B) (fun _ _ k => k.1))
            KpC.trans (fun W l o o' hl h1 h2 => KpC.put o' h1 h2 (by omega)) (fun W f hs => ⟨f.blk HE3.out.1 (by simp), f.blk HE3.out.2 (by simp)⟩) (fun W l o o' hl h1 h2 h3 => ⟨h3.1.putObj h1 h2 o', h3.2.putObj h1 h2 o'⟩) (by simp) (fun _ => rfl)
            (fun xs X => J (covRows fx tx pre ++ xs.map fun x => (x, y)) X ∧ CI z3 z1 z2 bs bb B l fx fy tx ty a b c d s X ∧ Blk X b6 #[.int .i32 y] 21 ∧ KeepsFrom w2.heap.size W1 X ∧ KpC tsC (w2.heap.size + 2) B W1 X)
            (fun q xs X => q = .ret ∧ Jx (covRows fx tx pre ++ xs.map fun x => (x, y)) X ∧ CI z3 z1 z2 bs bb B l fx fy tx ty a b c d s X ∧ KeepsFrom w2.heap.size W1 X ∧ KpC tsC (w2.heap.size + 2) B W1 X)
            ?iI ?iIx ?i0 (fun x a' W => a' = { tmps := #[.func (.yield l) #[] #[], .pointer (some ⟨bs, 0, none⟩), .pointer (some ⟨bb, 0, none⟩), .pointer (some ⟨z3, 0, none⟩), .pointer (some ⟨z1, 0, none⟩), .pointer (some ⟨z2, 0, none⟩), .pointer (some ⟨b6, 0, none⟩), .int .i32 x, .int .i64 s, .bool true, .bool false, .bool false, .agg #[.int .i32 a, .int .i32 b, .int .i32 c, .int .i32 d], .bool true, .bool false, .bool false, u16, u17, u18, u19, u20, u21, u22, u23, .agg #[.int .i32 fx, .int .i32 fy], .agg #[.int .i32 tx, .int .i32 ty], .bool false, undef, undef, undef, .pointer (some ⟨z1, 1, none⟩), .int .i32 fy, .pointer (some ⟨z2, 1, none⟩), .int .i32 ty, .func (.func 46) #[] #[.pointer (some ⟨wc.heap.size, 0, none⟩), .pointer (some ⟨wc.heap.size + 1, 0, none⟩)], .int .i32 y, .pointer (some ⟨z1, 0, none⟩), .int .i32 fx, .pointer (some ⟨z2, 0, none⟩), .int .i32 tx, .func (.func 46) #[] #[.pointer (some ⟨W1.heap.size, 0, none⟩), .pointer (some ⟨W1.heap.size + 1, 0, none⟩)], .int .i32 x, undef, undef, undef, undef, undef, undef], defers := [] })
            ?iAx ?iassign ?ibody ?idone ?istop
          case iI =>
            intro xs A A' row h hg hr
            exact ⟨(HJ.out.1.up (by omega)) _ A A' row h.1 hg hr, h.2.1.ab hg hr, blk_ab hg hr h.2.2.1 (by simp), KeepsFrom.ab hg hr hs3 h.2.2.2.1, ⟨KeepsTy.ab hg hr h.2.2.2.2.1.1, KeepsFrom.ab hg hr hs3 h.2.2.2.2.1.2⟩, KpB.ab hg hr h.2.2.2.2.2⟩
          case iIx =>
            intro q xs A A' row h hg hr
            exact ⟨h.1, (HJ.out.2.1.up (by omega)) _ A A' row h.2.1 hg hr, h.2.2.1.ab hg hr, KeepsFrom.ab hg hr hs3 h.2.2.2.1, ⟨KeepsTy.ab hg hr h.2.2.2.2.1.1, KeepsFrom.ab hg hr hs3 h.2.2.2.2.1.2⟩, KpB.ab hg hr h.2.2.2.2.2⟩
          case i0 =>
            refine ⟨?_, HI.out.1.2.fr F3.out, F3.out.blk HI.out.2.1 (by simp), kf_of_fr _ F3.out (by simp), KpC.of_fr F3.out⟩
            have := HJ.out.1.fr HI.out.1.1 F3.out
            simpa using this
          case iAx =>
            intro x a' u A A' row h hg hr
            exact h
          case iassign =>
            intro l2 xs x W' K hI hK
            have HK := Lib.hid (hK _ _ (KeepsFrom.refl _ _) (KpC.of_fr (Fr.refl _ _)) hI rfl)
            clear hK hI
            simp only [intArg, List.zip_toArray, Array.foldl]
            gi_wp2
            exact HK.out
          case ibody =>
            rintro l2 xs x a' W5 hl2 - hI2 rfl hN2
            have hlen : (covRows fx tx pre ++ xs.map fun x => (x, y)).length < (covSeq a b c d s).length := by
              rw [HSEQ.out, List.length_append, List.length_map, covRows_len, covRows_len]
              rw [upTo_len fx tx] at hN2
              have h1 := Nat.mul_le_mul_right (tx + 1 - fx).toNat (Nat.succ_le_of_lt HI.out.2.2.2)
              rw [Nat.succ_mul] at h1
              omega
            obtain ⟨f, tm, asg, body, hy, hR⟩ := yield_in (l' := l2) (yield_lv (n' := m - 1 - 1 - 1 - 1 - 1) (HY.out _ (x, y) W5 hI2.1 hlen))
            rw [List.append_assoc, show (xs.map fun x => (x, y)) ++ [(x, y)] = (xs ++ [x]).map fun x => (x, y) by simp] at hR
            have k4 := hI2.2.1.y.at 0 (v := .func (.yield l) #[] #[]) rfl
            have k5 := hI2.2.2.1.at 0 (v := .int .i32 y) rfl
            simp only [cellArg, pt] at hy
            have HR := Lib.hid hR
            have HI2 := Lib.hid hI2
            clear hR hlen hI2
            gi_wp2
            refine ⟨fun h => by simp [Fence.wide] at h, HR.out.mono ?_⟩
            rintro e W6 ⟨hk6, (⟨rfl, hJ6⟩ | ⟨rfl, hJx6⟩)⟩
            · have HK6 := Lib.hid (And.intro hk6 hJ6)
              clear hk6 hJ6
              gi_wp2
              have hDD := HJ.out.2.2.2
              obtain ⟨hk6, hJ6⟩ := HK6.out
              obtain ⟨i1, i2, i3, i4, i5⟩ := HI2.out
              exact ⟨kf_up hk6.1.2 (by omega), hk6.up (by omega), hJ6, i2.kp hk6, hk6.1.1 _ _ _ (by simp) i3, i4.trans (kf_up hk6.1.2 (by omega)), i5.trans (hk6.up (by omega))⟩
            · have HK6 := Lib.hid (And.intro hk6 hJx6)
              clear hk6 hJx6
              gi_wp2
              have hDD := HJ.out.2.2.2
              obtain ⟨hk6, hJ6⟩ := HK6.out
              obtain ⟨i1, i2, i3, i4, i5⟩ := HI2.out
              exact ⟨kf_up hk6.1.2 (by omega), hk6.up (by omega), rfl, hJ6, i2.kp hk6, i4.trans (kf_up hk6.1.2 (by omega)), i5.trans (hk6.up (by omega))⟩
          case idone =>
            rintro xs W3 rfl hI2 hen4
            have HI2 := Lib.hid hI2
            clear hI2 hen4
            gi_wp2
            obtain ⟨i1, i2, i3, i4, i5⟩ := HI2.out
            exact ⟨i4, i5, by rw [covRows_snoc]; exact i1, i2⟩
          case istop =>
            rintro q xs W3 hpre ⟨rfl, i1, i2, i4, i5⟩ hen4
            have HI2 := Lib.hid (And.intro hpre (And.intro i1 (And.intro i2 (And.intro i4 i5))))
            clear hpre i1 i2 i4 i5 hen4
            gi_wp2
            obtain ⟨hpre, i1, i2, i4, i5⟩ := HI2.out
            obtain ⟨z, hz⟩ := hpre
            refine ⟨i4, i5, rfl, _, ?_, i1, i2⟩
            rw [covRows_snoc]
            unfold covRow
            rw [← hz, List.map_append, ← List.append_assoc]
            exact List.prefix_append _ _
        case hdone =>
          rintro D0 xs W3 hD0 rfl hI hen3 hK
          have HH := Lib.hid (And.intro hI (And.intro hen3 hK))
          clear hI hen3 hK
          gi_wp2
          obtain ⟨hI, hen3, hK⟩ := HH.out
          refine ⟨by simp, .inl ⟨_, _, rfl, run_takeDeferred hK, ?_⟩⟩
          exact ⟨_, results_none rfl _ _ _, ⟨_, rfl⟩, ⟨hI.2.h.s.putObj hK rfl _, hI.2.h.b.putObj hK rfl _⟩, .inl (by rw [HSEQ.out]; exact HJ.out.1.put hI.1 hK (by omega) rfl _)⟩
        case hstop =>
          rintro D0 q pre W3 hD0 hpre ⟨rfl, L, hL, hJ3, hC3⟩ hen3 hK
          have HH := Lib.hid (And.intro hpre (And.intro hL (And.intro hJ3 (And.intro hC3 hK))))
          clear hpre hL hJ3 hC3 hen3 hK
          gi_wp2
          obtain ⟨hpre, hL, hJ3, hC3, hK⟩ := HH.out
          refine ⟨by simp, .inl ⟨_, _, rfl, run_takeDeferred hK, ?_⟩⟩
          exact ⟨_, results_none rfl _ _ _, ⟨_, rfl⟩, ⟨hC3.h.s.putObj hK rfl _, hC3.h.b.putObj hK rfl _⟩, .inr ⟨L, by rw [HSEQ.out]; exact hL.trans (covRows_prefix hpre), HJ.out.2.1.put hJ3 hK (by omega) rfl _⟩⟩
end Go.Proofs.Ythagbhiblncpkaa
