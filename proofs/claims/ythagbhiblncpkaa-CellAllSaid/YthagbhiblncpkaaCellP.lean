/-
  Count, by contracts.
-/
import Derived.Test.YthagbhiblncpkaaCellO
import Derived.Test.YthagbhiblncpkaaInv
import Derived.Deep.CutBlock
import Derived.Deep.DeepCutAuto
namespace Go.Proofs.Ythagbhiblncpkaa
open Go.RowKit
set_option linter.unusedVariables false

/-- A box of two whole numbers that is filled where q. -/
def Cb (w1 w : World) (x : Value) (q : Prop) (u v : Int) : Prop := ∃ z, x = .pointer (some ⟨z, 0, none⟩) ∧ w1.heap.size ≤ z ∧ (q → Blk w z #[.int .i32 u, .int .i32 v] 33) ∧ (¬ q → Blk w z #[.int .i32 0, .int .i32 0] 33)
theorem Cb.fr {w1 w w' : World} {x : Value} {q : Prop} {u v : Int} (h : Cb w1 w x q u v) (f : Fr [] w w') : Cb w1 w' x q u v := by
  obtain ⟨z, h1, h2, h3, h4⟩ := h
  exact ⟨z, h1, h2, fun c => f.blk (h3 c) (by simp), fun c => f.blk (h4 c) (by simp)⟩
theorem Cb.lt {w1 w : World} {q : Prop} {u v : Int} {z : Nat} (h : Cb w1 w (.pointer (some ⟨z, 0, none⟩)) q u v) : z < w.heap.size := by
  obtain ⟨z', h1, _, h3, h4⟩ := h
  cases h1
  by_cases c : q
  · exact (h3 c).lt
  · exact (h4 c).lt
theorem Cb.of_iff {w1 w : World} {x : Value} {q q' : Prop} {u v : Int} (h : Cb w1 w x q u v) (e : q' ↔ q) : Cb w1 w x q' u v := by
  obtain ⟨z, h1, h2, h3, h4⟩ := h
  exact ⟨z, h1, h2, fun c => h3 (e.1 c), fun c => h4 (fun d => c (e.2 d))⟩
theorem Cb.other {w1 w : World} {x : Value} {q : Prop} {u v : Int} (h : Cb w1 w x q u v) {g : Nat} (hg : x ≠ .pointer (some ⟨g, 0, none⟩)) (m n : Value) : Cb w1 ((w.setCell ⟨g, 0, none⟩ m).setCell ⟨g, 1, none⟩ n) x q u v := by
  obtain ⟨z, rfl, h2, h3, h4⟩ := h
  have hz : z ≠ g := fun e => hg (by rw [e])
  exact ⟨z, rfl, h2, fun c => (h3 c).other2 hz, fun c => (h4 c).other2 hz⟩
/-- What is true within 'from, to := of(..), of(..)', by what is done. t: the slots. -/
structure Rg (t : Value → Value → Value → Value → Value → Value → Value → Value → Value → Value → Array Value) (w1 : World) (z : Nat) (a b c d s : Int) (p : Nat → Prop) (x : Act) (w : World) : Prop where
  ex : ∃ x4 x5 x16 x17 x18 x19 x20 x21 x22 x23, x = { tmps := t x4 x5 x16 x17 x18 x19 x20 x21 x22 x23, defers := [] } ∧
    (p 0 → x16 = .pointer (some ⟨z, 0, none⟩)) ∧ (p 1 → x17 = .agg #[.int .i32 a, .int .i32 b]) ∧ (p 2 → x18 = .int .i64 s) ∧ (p 3 → x19 = .agg #[.int .i32 (a / s), .int .i32 (b / s)]) ∧
    (p 4 → x20 = .pointer (some ⟨z, 2, none⟩)) ∧ (p 5 → x21 = .agg #[.int .i32 c, .int .i32 d]) ∧ (p 6 → x22 = .int .i64 s) ∧ (p 7 → x23 = .agg #[.int .i32 (c / s), .int .i32 (d / s)]) ∧
    (p 8 → Cb w1 w x4 (p 10) (a / s) (b / s)) ∧ (p 9 → Cb w1 w x5 (p 11) (c / s) (d / s)) ∧ (p 8 → p 9 → x4 ≠ x5) ∧ (p 10 → p 8) ∧ (p 11 → p 9)
  fr : Fr [] w1 w

set_option maxHeartbeats 4000000 in
theorem count_ok (w : World) (a b c d s : Int) (hf : fits s = true) (hb : boxOk a b c d = true) :
    Calls Try.prog 20 #[bx a b c d, .int .i64 s] w fun e w' => e = .returned (.int .i64 ((c / s - a / s + 1) * (d / s - b / s + 1))) ∧ Fr [] w w' := by
  obtain ⟨s1, s2⟩ := fits_iff.1 hf
  obtain ⟨i1, i2, h1, h2⟩ := boxOk_iff.1 hb
  obtain ⟨ax1, ax2, ay1, ay2⟩ : -1073741823 ≤ a ∧ a ≤ 1073741823 ∧ -1073741823 ≤ b ∧ b ≤ 1073741823 := of_decide_eq_true i1
  obtain ⟨cx1, cx2, cy1, cy2⟩ : -1073741823 ≤ c ∧ c ≤ 1073741823 ∧ -1073741823 ≤ d ∧ d ≤ 1073741823 := of_decide_eq_true i2
  have hB := Blk.new w #[.int .i32 a, .int .i32 b, .int .i32 c, .int .i32 d] 39
  have F0 := (Fr.refl [] w).alloc (.cells #[.int .i32 a, .int .i32 b, .int .i32 c, .int .i32 d] 39)
  have HH := Lib.hid (And.intro hB F0)
  have HS := Lib.hid (fun w => hf ▸ isSize_any w s)
  have HX := Lib.hid (fun w => show Calls Try.prog 39 #[.agg #[.int .i32 a, .int .i32 b, .int .i32 c, .int .i32 d]] w fun e w' => e = .returned (.bool true) ∧ Fr [] w w' from hb ▸ isBox_any w a b c d)
  have HP := Lib.hid (show ∀ w, Calls Try.prog 33 #[.agg #[.int .i32 a, .int .i32 b], .int .i64 s] w fun e w' => e = .returned (.agg #[.int .i32 (a / s), .int .i32 (b / s)]) ∧ Fr [] w w' from fun w => of_any w a b s (by unfold I32; omega) (by unfold I32; omega) s1 s2)
  have HQ := Lib.hid (show ∀ w, Calls Try.prog 33 #[.agg #[.int .i32 c, .int .i32 d], .int .i64 s] w fun e w' => e = .returned (.agg #[.int .i32 (c / s), .int .i32 (d / s)]) ∧ Fr [] w w' from fun w => of_any w c d s (by unfold I32; omega) (by unfold I32; omega) s1 s2)
  obtain ⟨R, hR⟩ : ∃ R, R = (c / s - a / s + 1) * (d / s - b / s + 1) := ⟨_, rfl⟩
  rw [← hR]
  have HR := Lib.hid hR
  clear hB F0 hf hb i1 i2 hR
  unfold bx
  go_enter Try.func20, Try.ntmps20
  go_wp2_with fail
  (with_reducible refine (HS.out _).mono ?_)
  rintro e w1 ⟨rfl, rfl⟩
  have c0 := HH.out.1.at 0 (v := .int .i32 a) rfl
  have c1 := HH.out.1.at 1 (v := .int .i32 b) rfl
  have c2 := HH.out.1.at 2 (v := .int .i32 c) rfl
  have c3 := HH.out.1.at 3 (v := .int .i32 d) rfl
  go_wp2_with fail
  (with_reducible refine (HX.out _).mono ?_)
  rintro e w1 ⟨rfl, f1⟩
  obtain ⟨z, hz⟩ : ∃ z, z = w.heap.size := ⟨_, rfl⟩
  have k1 := f1.blk HH.out.1 (by simp)
  have F1 := HH.out.2.trans f1 (by simp)
  rw [← hz] at k1
  have K1 := Lib.hid (And.intro k1 F1)
  have S0 := (show ∀ W, Fr [] w1 W → W.cell? ⟨z, 0, none⟩ = some (.int .i32 a) ∧ W.cell? ⟨z, 1, none⟩ = some (.int .i32 b) ∧ W.cell? ⟨z, 2, none⟩ = some (.int .i32 c) ∧ W.cell? ⟨z, 3, none⟩ = some (.int .i32 d) from fun W f => ⟨(f.blk k1 (by simp)).at 0 rfl, (f.blk k1 (by simp)).at 1 rfl, (f.blk k1 (by simp)).at 2 rfl, (f.blk k1 (by simp)).at 3 rfl⟩)
  have SS := Lib.hid S0
  clear k1 F1 S0 f1 HX HS c0 c1 c2 c3
  go_upto_region 3 with fail
  simp only [← hz]
  clear hz
  go_cut [5, 6] (fun s5 s6 wx => ∃ z1 z2, s5 = .pointer (some ⟨z1, 0, none⟩) ∧ s6 = .pointer (some ⟨z2, 0, none⟩) ∧ Blk wx z1 #[.int .i32 (a / s), .int .i32 (b / s)] 33 ∧ Blk wx z2 #[.int .i32 (c / s), .int .i32 (d / s)] 33 ∧ Fr [] w1 wx)
  case first =>
    refine region_inv (by kernel_rfl) (by kernel_rfl) (Rg (fun x5 x6 x15 x16 x17 x18 x19 x20 x21 x22 => #[.agg #[.int .i32 a, .int .i32 b, .int .i32 c, .int .i32 d], .int .i64 s, .pointer (some ⟨z, 0, none⟩), undef, .int .i64 0, x5, x6, .int .i64 s, .bool true, .bool false, .bool false, .agg #[.int .i32 a, .int .i32 b, .int .i32 c, .int .i32 d], .bool true, .bool false, .bool false, x15, x16, x17, x18, x19, x20, x21, x22, undef, undef, undef, undef, undef, undef, undef, undef, undef, undef, undef, undef, undef, undef, undef, undef, undef]) w1 z a b c d s) ?_ ?_ ?_
    · refine ⟨⟨_, _, _, _, _, _, _, _, _, _, rfl, ?_⟩, (Fr.refl _ _).drew⟩
      simp
    · intro p x W i hi hnp hd hI
      obtain ⟨⟨x4, x5, x16, x17, x18, x19, x20, x21, x22, x23, rfl, g0, g1, g2, g3, g4, g5, g6, g7, g8, g9, g89, gc10, gc11⟩, hfr⟩ := hI
      obtain ⟨c0, c1, c2, c3⟩ := SS.out W hfr
      have hcases : i = 0 ∨ i = 1 ∨ i = 2 ∨ i = 3 ∨ i = 4 ∨ i = 5 ∨ i = 6 ∨ i = 7 ∨ i = 8 ∨ i = 9 ∨ i = 10 ∨ i = 11 := by
        have h12 : i < 12 := hi
        omega
      rcases hcases with rfl | rfl | rfl | rfl | rfl | rfl | rfl | rfl | rfl | rfl | rfl | rfl
      · refine wpOp_plain (i := 0) rfl rfl (fun K' hK => ?_)
        unfold Oper.wp
        go_simp
        refine hK _ _ ⟨⟨_, _, _, _, _, _, _, _, _, _, rfl, (fun _ => rfl), (fun h => g1 (h.resolve_right (by decide))), (fun h => g2 (h.resolve_right (by decide))), (fun h => g3 (h.resolve_right (by decide))), (fun h => g4 (h.resolve_right (by decide))), (fun h => g5 (h.resolve_right (by decide))), (fun h => g6 (h.resolve_right (by decide))), (fun h => g7 (h.resolve_right (by decide))), (fun h => (g8 (h.resolve_right (by decide))).of_iff ⟨fun h => h.resolve_right (by decide), .inl⟩), (fun h => (g9 (h.resolve_right (by decide))).of_iff ⟨fun h => h.resolve_right (by decide), .inl⟩), (fun h k => g89 (h.resolve_right (by decide)) (k.resolve_right (by decide))), (fun h => .inl (gc10 (h.resolve_right (by decide)))), (fun h => .inl (gc11 (h.resolve_right (by decide))))⟩, hfr⟩
      · refine wpOp_plain (i := 1) rfl rfl (fun K' hK => ?_)
        have r0 := g0 (hd _ rfl ⟨0, .data⟩ (by simp) rfl)
        subst r0
        unfold Oper.wp
        go_simp
        refine hK _ _ ⟨⟨_, _, _, _, _, _, _, _, _, _, rfl, (fun h => g0 (h.resolve_right (by decide))), (fun _ => rfl), (fun h => g2 (h.resolve_right (by decide))), (fun h => g3 (h.resolve_right (by decide))), (fun h => g4 (h.resolve_right (by decide))), (fun h => g5 (h.resolve_right (by decide))), (fun h => g6 (h.resolve_right (by decide))), (fun h => g7 (h.resolve_right (by decide))), (fun h => (g8 (h.resolve_right (by decide))).of_iff ⟨fun h => h.resolve_right (by decide), .inl⟩), (fun h => (g9 (h.resolve_right (by decide))).of_iff ⟨fun h => h.resolve_right (by decide), .inl⟩), (fun h k => g89 (h.resolve_right (by decide)) (k.resolve_right (by decide))), (fun h => .inl (gc10 (h.resolve_right (by decide)))), (fun h => .inl (gc11 (h.resolve_right (by decide))))⟩, hfr⟩
      · refine wpOp_plain (i := 2) rfl rfl (fun K' hK => ?_)
        unfold Oper.wp
        go_simp
        refine hK _ _ ⟨⟨_, _, _, _, _, _, _, _, _, _, rfl, (fun h => g0 (h.resolve_right (by decide))), (fun h => g1 (h.resolve_right (by decide))), (fun _ => rfl), (fun h => g3 (h.resolve_right (by decide))), (fun h => g4 (h.resolve_right (by decide))), (fun h => g5 (h.resolve_right (by decide))), (fun h => g6 (h.resolve_right (by decide))), (fun h => g7 (h.resolve_right (by decide))), (fun h => (g8 (h.resolve_right (by decide))).of_iff ⟨fun h => h.resolve_right (by decide), .inl⟩), (fun h => (g9 (h.resolve_right (by decide))).of_iff ⟨fun h => h.resolve_right (by decide), .inl⟩), (fun h k => g89 (h.resolve_right (by decide)) (k.resolve_right (by decide))), (fun h => .inl (gc10 (h.resolve_right (by decide)))), (fun h => .inl (gc11 (h.resolve_right (by decide))))⟩, hfr⟩
      · refine wpOp_plain (i := 3) rfl rfl (fun K' hK => ?_)
        have r1 := g1 (hd _ rfl ⟨1, .data⟩ (by simp) rfl)
        subst r1
        have r2 := g2 (hd _ rfl ⟨2, .data⟩ (by simp) rfl)
        subst r2
        unfold Oper.wp
        go_simp
        (with_reducible refine (HP.out _).mono ?_)
        rintro e w9 ⟨rfl, f⟩
        refine hK _ _ ⟨⟨_, _, _, _, _, _, _, _, _, _, rfl, (fun h => g0 (h.resolve_right (by decide))), (fun h => g1 (h.resolve_right (by decide))), (fun h => g2 (h.resolve_right (by decide))), (fun _ => rfl), (fun h => g4 (h.resolve_right (by decide))), (fun h => g5 (h.resolve_right (by decide))), (fun h => g6 (h.resolve_right (by decide))), (fun h => g7 (h.resolve_right (by decide))), (fun h => ((g8 (h.resolve_right (by decide))).fr f).of_iff ⟨fun h => h.resolve_right (by decide), .inl⟩), (fun h => ((g9 (h.resolve_right (by decide))).fr f).of_iff ⟨fun h => h.resolve_right (by decide), .inl⟩), (fun h k => g89 (h.resolve_right (by decide)) (k.resolve_right (by decide))), (fun h => .inl (gc10 (h.resolve_right (by decide)))), (fun h => .inl (gc11 (h.resolve_right (by decide))))⟩, (hfr.trans f (by simp))⟩
      · refine wpOp_plain (i := 4) rfl rfl (fun K' hK => ?_)
        unfold Oper.wp
        go_simp
        refine hK _ _ ⟨⟨_, _, _, _, _, _, _, _, _, _, rfl, (fun h => g0 (h.resolve_right (by decide))), (fun h => g1 (h.resolve_right (by decide))), (fun h => g2 (h.resolve_right (by decide))), (fun h => g3 (h.resolve_right (by decide))), (fun _ => rfl), (fun h => g5 (h.resolve_right (by decide))), (fun h => g6 (h.resolve_right (by decide))), (fun h => g7 (h.resolve_right (by decide))), (fun h => (g8 (h.resolve_right (by decide))).of_iff ⟨fun h => h.resolve_right (by decide), .inl⟩), (fun h => (g9 (h.resolve_right (by decide))).of_iff ⟨fun h => h.resolve_right (by decide), .inl⟩), (fun h k => g89 (h.resolve_right (by decide)) (k.resolve_right (by decide))), (fun h => .inl (gc10 (h.resolve_right (by decide)))), (fun h => .inl (gc11 (h.resolve_right (by decide))))⟩, hfr⟩
      · refine wpOp_plain (i := 5) rfl rfl (fun K' hK => ?_)
        have r4 := g4 (hd _ rfl ⟨4, .data⟩ (by simp) rfl)
        subst r4
        unfold Oper.wp
        go_simp
        refine hK _ _ ⟨⟨_, _, _, _, _, _, _, _, _, _, rfl, (fun h => g0 (h.resolve_right (by decide))), (fun h => g1 (h.resolve_right (by decide))), (fun h => g2 (h.resolve_right (by decide))), (fun h => g3 (h.resolve_right (by decide))), (fun h => g4 (h.resolve_right (by decide))), (fun _ => rfl), (fun h => g6 (h.resolve_right (by decide))), (fun h => g7 (h.resolve_right (by decide))), (fun h => (g8 (h.resolve_right (by decide))).of_iff ⟨fun h => h.resolve_right (by decide), .inl⟩), (fun h => (g9 (h.resolve_right (by decide))).of_iff ⟨fun h => h.resolve_right (by decide), .inl⟩), (fun h k => g89 (h.resolve_right (by decide)) (k.resolve_right (by decide))), (fun h => .inl (gc10 (h.resolve_right (by decide)))), (fun h => .inl (gc11 (h.resolve_right (by decide))))⟩, hfr⟩
      · refine wpOp_plain (i := 6) rfl rfl (fun K' hK => ?_)
        unfold Oper.wp
        go_simp
        refine hK _ _ ⟨⟨_, _, _, _, _, _, _, _, _, _, rfl, (fun h => g0 (h.resolve_right (by decide))), (fun h => g1 (h.resolve_right (by decide))), (fun h => g2 (h.resolve_right (by decide))), (fun h => g3 (h.resolve_right (by decide))), (fun h => g4 (h.resolve_right (by decide))), (fun h => g5 (h.resolve_right (by decide))), (fun _ => rfl), (fun h => g7 (h.resolve_right (by decide))), (fun h => (g8 (h.resolve_right (by decide))).of_iff ⟨fun h => h.resolve_right (by decide), .inl⟩), (fun h => (g9 (h.resolve_right (by decide))).of_iff ⟨fun h => h.resolve_right (by decide), .inl⟩), (fun h k => g89 (h.resolve_right (by decide)) (k.resolve_right (by decide))), (fun h => .inl (gc10 (h.resolve_right (by decide)))), (fun h => .inl (gc11 (h.resolve_right (by decide))))⟩, hfr⟩
      · refine wpOp_plain (i := 7) rfl rfl (fun K' hK => ?_)
        have r5 := g5 (hd _ rfl ⟨5, .data⟩ (by simp) rfl)
        subst r5
        have r6 := g6 (hd _ rfl ⟨6, .data⟩ (by simp) rfl)
        subst r6
        unfold Oper.wp
        go_simp
        (with_reducible refine (HQ.out _).mono ?_)
        rintro e w9 ⟨rfl, f⟩
        refine hK _ _ ⟨⟨_, _, _, _, _, _, _, _, _, _, rfl, (fun h => g0 (h.resolve_right (by decide))), (fun h => g1 (h.resolve_right (by decide))), (fun h => g2 (h.resolve_right (by decide))), (fun h => g3 (h.resolve_right (by decide))), (fun h => g4 (h.resolve_right (by decide))), (fun h => g5 (h.resolve_right (by decide))), (fun h => g6 (h.resolve_right (by decide))), (fun _ => rfl), (fun h => ((g8 (h.resolve_right (by decide))).fr f).of_iff ⟨fun h => h.resolve_right (by decide), .inl⟩), (fun h => ((g9 (h.resolve_right (by decide))).fr f).of_iff ⟨fun h => h.resolve_right (by decide), .inl⟩), (fun h k => g89 (h.resolve_right (by decide)) (k.resolve_right (by decide))), (fun h => .inl (gc10 (h.resolve_right (by decide)))), (fun h => .inl (gc11 (h.resolve_right (by decide))))⟩, (hfr.trans f (by simp))⟩
      · refine wpOp_plain (i := 8) rfl rfl (fun K' hK => ?_)
        unfold Oper.wp
        go_simp
        have n10 : ¬ p 10 := fun h => hnp (gc10 h)
        refine hK _ _ ⟨⟨_, _, _, _, _, _, _, _, _, _, rfl, (fun h => g0 (h.resolve_right (by decide))), (fun h => g1 (h.resolve_right (by decide))), (fun h => g2 (h.resolve_right (by decide))), (fun h => g3 (h.resolve_right (by decide))), (fun h => g4 (h.resolve_right (by decide))), (fun h => g5 (h.resolve_right (by decide))), (fun h => g6 (h.resolve_right (by decide))), (fun h => g7 (h.resolve_right (by decide))), (fun _ => ⟨_, rfl, hfr.size, fun h => absurd (h.resolve_right (by decide)) n10, fun _ => Blk.new W _ _⟩), (fun h => ((g9 (h.resolve_right (by decide))).fr ((Fr.refl [] W).alloc _)).of_iff ⟨fun h => h.resolve_right (by decide), .inl⟩), (fun _ k e => by have q := g9 (k.resolve_right (by decide)); rw [← e] at q; exact absurd q.lt (Nat.lt_irrefl _)), (fun h => absurd (h.resolve_right (by decide)) n10), (fun h => .inl (gc11 (h.resolve_right (by decide))))⟩, (hfr.alloc _)⟩
      · refine wpOp_plain (i := 9) rfl rfl (fun K' hK => ?_)
        unfold Oper.wp
        go_simp
        have n11 : ¬ p 11 := fun h => hnp (gc11 h)
        refine hK _ _ ⟨⟨_, _, _, _, _, _, _, _, _, _, rfl, (fun h => g0 (h.resolve_right (by decide))), (fun h => g1 (h.resolve_right (by decide))), (fun h => g2 (h.resolve_right (by decide))), (fun h => g3 (h.resolve_right (by decide))), (fun h => g4 (h.resolve_right (by decide))), (fun h => g5 (h.resolve_right (by decide))), (fun h => g6 (h.resolve_right (by decide))), (fun h => g7 (h.resolve_right (by decide))), (fun h => ((g8 (h.resolve_right (by decide))).fr ((Fr.refl [] W).alloc _)).of_iff ⟨fun h => h.resolve_right (by decide), .inl⟩), (fun _ => ⟨_, rfl, hfr.size, fun h => absurd (h.resolve_right (by decide)) n11, fun _ => Blk.new W _ _⟩), (fun k _ e => by have q := g8 (k.resolve_right (by decide)); rw [e] at q; exact absurd q.lt (Nat.lt_irrefl _)), (fun h => .inl (gc10 (h.resolve_right (by decide)))), (fun h => absurd (h.resolve_right (by decide)) n11)⟩, (hfr.alloc _)⟩
      · refine wpOp_plain (i := 10) rfl rfl (fun K' hK => ?_)
        have r3 := g3 (hd _ rfl ⟨3, .data⟩ (by simp) rfl)
        subst r3
        have p8 := hd _ rfl ⟨8, .data⟩ (by simp) rfl
        obtain ⟨zz, rfl, hz2, _, hz4⟩ := g8 p8
        have hbz := hz4 hnp
        have k0 := hbz.at 0 (v := .int .i32 0) rfl
        have k1 := hbz.at 1 (v := .int .i32 0) rfl
        have m0 := hbz.free 0
        have m1 := hbz.free 1
        unfold Oper.wp
        go_simp
        refine hK _ _ ⟨⟨_, _, _, _, _, _, _, _, _, _, rfl, (fun h => g0 (h.resolve_right (by decide))), (fun h => g1 (h.resolve_right (by decide))), (fun h => g2 (h.resolve_right (by decide))), (fun h => g3 (h.resolve_right (by decide))), (fun h => g4 (h.resolve_right (by decide))), (fun h => g5 (h.resolve_right (by decide))), (fun h => g6 (h.resolve_right (by decide))), (fun h => g7 (h.resolve_right (by decide))), (fun _ => ⟨_, rfl, hz2, fun _ => hbz.pair, fun h => absurd (.inr rfl) h⟩), (fun h => ((g9 (h.resolve_right (by decide))).other (fun e => g89 p8 (h.resolve_right (by decide)) e.symm) _ _).of_iff ⟨fun h => h.resolve_right (by decide), .inl⟩), (fun h k => g89 (h.resolve_right (by decide)) (k.resolve_right (by decide))), (fun _ => .inl p8), (fun h => .inl (gc11 (h.resolve_right (by decide))))⟩, ((hfr.setCell _ _ (.inr hz2)).setCell _ _ (.inr hz2))⟩
      · refine wpOp_plain (i := 11) rfl rfl (fun K' hK => ?_)
        have r7 := g7 (hd _ rfl ⟨7, .data⟩ (by simp) rfl)
        subst r7
        have p9 := hd _ rfl ⟨9, .data⟩ (by simp) rfl
        obtain ⟨zz, rfl, hz2, _, hz4⟩ := g9 p9
        have hbz := hz4 hnp
        have k0 := hbz.at 0 (v := .int .i32 0) rfl
        have k1 := hbz.at 1 (v := .int .i32 0) rfl
        have m0 := hbz.free 0
        have m1 := hbz.free 1
        unfold Oper.wp
        go_simp
        refine hK _ _ ⟨⟨_, _, _, _, _, _, _, _, _, _, rfl, (fun h => g0 (h.resolve_right (by decide))), (fun h => g1 (h.resolve_right (by decide))), (fun h => g2 (h.resolve_right (by decide))), (fun h => g3 (h.resolve_right (by decide))), (fun h => g4 (h.resolve_right (by decide))), (fun h => g5 (h.resolve_right (by decide))), (fun h => g6 (h.resolve_right (by decide))), (fun h => g7 (h.resolve_right (by decide))), (fun h => ((g8 (h.resolve_right (by decide))).other (g89 (h.resolve_right (by decide)) p9) _ _).of_iff ⟨fun h => h.resolve_right (by decide), .inl⟩), (fun _ => ⟨_, rfl, hz2, fun _ => hbz.pair, fun h => absurd (.inr rfl) h⟩), (fun h k => g89 (h.resolve_right (by decide)) (k.resolve_right (by decide))), (fun h => .inl (gc10 (h.resolve_right (by decide)))), (fun _ => .inl p9)⟩, ((hfr.setCell _ _ (.inr hz2)).setCell _ _ (.inr hz2))⟩
    · intro p x W hp hI
      obtain ⟨⟨x4, x5, x16, x17, x18, x19, x20, x21, x22, x23, rfl, -, -, -, -, -, -, -, -, g8, g9, -, -, -⟩, hfr⟩ := hI
      obtain ⟨z1, rfl, _, q1, _⟩ := g8 (hp 8 (by decide))
      obtain ⟨z2, rfl, _, q2, _⟩ := g9 (hp 9 (by decide))
      have Q1 := q1 (hp 10 (by decide))
      have Q2 := q2 (hp 11 (by decide))
      simp only [Exit.then]
      go_wp2_with fail
      go_meet
      case rel => exact ⟨_, _, rfl, rfl, Q1, Q2, hfr⟩
  case rest =>
    obtain ⟨z1, z2, rfl, rfl, q1, q2, hg⟩ := hcut
    have k0 := q1.at 0 (v := .int .i32 (a / s)) rfl
    have k1 := q1.at 1 (v := .int .i32 (b / s)) rfl
    have l0 := q2.at 0 (v := .int .i32 (c / s)) rfl
    have l1 := q2.at 1 (v := .int .i32 (d / s)) rfl
    have HF := Lib.hid (K1.out.2.trans hg (by simp))
    have d1 := ediv_bd a s 1073741823 (by omega) (by omega) (by omega) (by omega)
    have d2 := ediv_bd b s 1073741823 (by omega) (by omega) (by omega) (by omega)
    have d3 := ediv_bd c s 1073741823 (by omega) (by omega) (by omega) (by omega)
    have d4 := ediv_bd d s 1073741823 (by omega) (by omega) (by omega) (by omega)
    have d5 : a / s ≤ c / s := Int.ediv_le_ediv (by omega) h1
    have d6 : b / s ≤ d / s := Int.ediv_le_ediv (by omega) h2
    clear q1 q2 hg SS K1 HP HQ HH
    generalize a / s = fx at *
    generalize b / s = fy at *
    generalize c / s = tx at *
    generalize d / s = ty at *
    have hm : 0 ≤ (tx - fx + 1) * (ty - fy + 1) ∧ (tx - fx + 1) * (ty - fy + 1) ≤ 2147483648 * 2147483648 :=
      ⟨Int.mul_nonneg (by omega) (by omega), Int.mul_le_mul (by omega) (by omega) (by omega) (by omega)⟩
    have v1 : IntKind.i64.wrap fx = fx := by rw [IntKind.wrap_i64]; omega
    have v2 : IntKind.i64.wrap fy = fy := by rw [IntKind.wrap_i64]; omega
    have v3 : IntKind.i64.wrap tx = tx := by rw [IntKind.wrap_i64]; omega
    have v4 : IntKind.i64.wrap ty = ty := by rw [IntKind.wrap_i64]; omega
    have v5 : IntKind.i64.wrap (tx - fx) = tx - fx := by rw [IntKind.wrap_i64]; omega
    have v6 : IntKind.i64.wrap (ty - fy) = ty - fy := by rw [IntKind.wrap_i64]; omega
    have v7 : IntKind.i64.wrap (tx - fx + 1) = tx - fx + 1 := by rw [IntKind.wrap_i64]; omega
    have v8 : IntKind.i64.wrap (ty - fy + 1) = ty - fy + 1 := by rw [IntKind.wrap_i64]; omega
    have v9 : IntKind.i64.wrap ((tx - fx + 1) * (ty - fy + 1)) = (tx - fx + 1) * (ty - fy + 1) := by
      generalize (tx - fx + 1) * (ty - fy + 1) = m at *
      rw [IntKind.wrap_i64]; omega
    clear hm d1 d2 d3 d4 d5 d6 ax1 ax2 ay1 ay2 cx1 cx2 cy1 cy2
    go_wp2
    go_ret
    exact ⟨by rw [HR.out]; rfl, HF.out⟩
/-- How many cells a box has a part of. -/
def cnt (a b c d s : Int) : Int := if fits s = true ∧ boxOk a b c d = true then (c / s - a / s + 1) * (d / s - b / s + 1) else 0
theorem count_any (w : World) (a b c d s : Int) : Calls Try.prog 20 #[bx a b c d, .int .i64 s] w fun e w' => e = .returned (.int .i64 (cnt a b c d s)) ∧ Fr [] w w' := by
  by_cases h : fits s = true ∧ boxOk a b c d = true
  · rw [show cnt a b c d s = (c / s - a / s + 1) * (d / s - b / s + 1) from if_pos h]
    exact count_ok w a b c d s h.1 h.2
  · rw [show cnt a b c d s = 0 from if_neg h]
    have hB := Blk.new w #[.int .i32 a, .int .i32 b, .int .i32 c, .int .i32 d] 39
    have HF := Lib.hid ((Fr.refl [] w).alloc (.cells #[.int .i32 a, .int .i32 b, .int .i32 c, .int .i32 d] 39))
    have c0 := hB.at 0 (v := .int .i32 a) rfl
    have c1 := hB.at 1 (v := .int .i32 b) rfl
    have c2 := hB.at 2 (v := .int .i32 c) rfl
    have c3 := hB.at 3 (v := .int .i32 d) rfl
    clear hB
    cases hf : fits s with
    | false =>
      have HS := Lib.hid (fun w => hf ▸ isSize_any w s)
      clear hf h
      unfold bx
      go_enter Try.func20, Try.ntmps20
      go_wp2_with (go_at_call 31; refine (HS.out _).mono ?_; rintro e _ ⟨rfl, rfl⟩)
      go_ret
      exact ⟨rfl, HF.out⟩
    | true =>
      have hb : boxOk a b c d = false := by
        cases hb : boxOk a b c d with
        | false => rfl
        | true => exact absurd ⟨hf, hb⟩ h
      have HS := Lib.hid (fun w => hf ▸ isSize_any w s)
      have HX := Lib.hid (fun w => show Calls Try.prog 39 #[.agg #[.int .i32 a, .int .i32 b, .int .i32 c, .int .i32 d]] w fun e w' => e = .returned (.bool false) ∧ Fr [] w w' from hb ▸ isBox_any w a b c d)
      clear hf hb h
      unfold bx
      go_enter Try.func20, Try.ntmps20
      go_wp2_with (first | (go_at_call 31; refine (HS.out _).mono ?_; rintro e _ ⟨rfl, rfl⟩) | (go_at_call 39; refine (HX.out _).mono ?_; rintro e w2 ⟨rfl, f2⟩))
      go_ret
      exact ⟨rfl, HF.out.trans f2 (by simp)⟩
end Go.Proofs.Ythagbhiblncpkaa
