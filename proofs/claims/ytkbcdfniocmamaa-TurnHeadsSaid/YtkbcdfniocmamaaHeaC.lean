/-
  TurnHeads: sectors by quarters; a heading's sector and length. For every input.
-/
import Derived.Test.YtkbcdfniocmamaaMapX
import Derived.Test.YtkbcdfniocmamaaHeaB
import Derived.IntWalk
namespace Go.Proofs.Ytkbcdfniocmamaa
open Go.RowKit Flo Go.ChangeShapes Go.WideShapes Go.ChangeAt
set_option linter.unusedVariables false

namespace heads
set_option maxRecDepth 100000 in
set_option maxHeartbeats 8000000 in
theorem walk (w : World) (a b c d : Int) (p q : Nat) (ha : I32 a) (hb : I32 b) (hc : I32 c) (hd : I32 d) :
    Calls Try.prog 7 #[.agg #[.int .i32 a, .int .i32 b], .agg #[.int .i32 c, .int .i32 d], .agg #[.int .u64 p, .int .u64 q]] w fun e w' => e = .returned (.bool true) ∧ Fr [] w w' := by
  have M5 := Lib.hid (fun w => heading_any w a b c d ha hb hc hd)
  have hma : (c - a).natAbs ≤ 2 ^ 33 := by unfold I32 at ha hc; omega
  have hmb : (d - b).natAbs ≤ 2 ^ 33 := by unfold I32 at hb hd; omega
  have HM := Lib.hid (And.intro hma hmb)
  have HI := Lib.hid (And.intro ha (And.intro hb (And.intro hc hd)))
  clear ha hb hc hd hma hmb
  have hB0 := (((Blk.new_at (w := w) (k := w.heap.size + 0) (by simp) #[.int .i32 a, .int .i32 b] 64).alloc (.cells #[.int .i32 c, .int .i32 d] 64)).alloc (.cells #[.int .u64 p, .int .u64 q] 25))
  have hB1 := ((Blk.new_at (w := (World.alloc w (.cells #[.int .i32 a, .int .i32 b] 64))) (k := w.heap.size + 1) (by simp) #[.int .i32 c, .int .i32 d] 64).alloc (.cells #[.int .u64 p, .int .u64 q] 25))
  have hB2 := (Blk.new_at (w := (World.alloc (World.alloc w (.cells #[.int .i32 a, .int .i32 b] 64)) (.cells #[.int .i32 c, .int .i32 d] 64))) (k := w.heap.size + 2) (by simp) #[.int .u64 p, .int .u64 q] 25)
  have f0 := ((((Fr.refl [] w).alloc (.cells #[.int .i32 a, .int .i32 b] 64)).alloc (.cells #[.int .i32 c, .int .i32 d] 64)).alloc (.cells #[.int .u64 p, .int .u64 q] 25))
  obtain ⟨z0, hz0⟩ : ∃ z, z = w.heap.size := ⟨_, rfl⟩
  rw [show w.heap.size + 0 = z0 by omega] at hB0
  rw [show w.heap.size + 1 = z0 + 1 by omega] at hB1
  rw [show w.heap.size + 2 = z0 + 1 + 1 by omega] at hB2
  have HZ := Lib.hid (show w.heap.size ≤ z0 from by omega)
  have HF := Lib.hid f0
  have HB0 := Lib.hid hB0
  have HB1 := Lib.hid hB1
  have HB2 := Lib.hid hB2
  clear f0 hB0 hB1 hB2
  go_enter Try.func7, Try.ntmps7
  go_upto_region 1 with fail
  simp only [← hz0]
  clear hz0
  generalize (World.alloc (World.alloc (World.alloc w _) _) _) = w0v at *
  obtain ⟨w0, hw0⟩ : ∃ w0, w0 = w0v := ⟨_, rfl⟩
  rw [← hw0] at HB0
  rw [← hw0] at HB1
  rw [← hw0] at HB2
  rw [← hw0] at HF
  rw [← hw0]
  clear hw0
  have SS := Lib.hid (fun (W : World) (fq : Fr [] w0 W) => show W.cell? ⟨z0, 0, none⟩ = some (.int .i32 a) ∧ W.cell? ⟨z0, 1, none⟩ = some (.int .i32 b) ∧ W.cell? ⟨z0 + 1, 0, none⟩ = some (.int .i32 c) ∧ W.cell? ⟨z0 + 1, 1, none⟩ = some (.int .i32 d) ∧ W.cell? ⟨z0 + 1 + 1, 0, none⟩ = some (.int .u64 p) ∧ W.cell? ⟨z0 + 1 + 1, 1, none⟩ = some (.int .u64 q) from ⟨(fq.blk HB0.out (by simp <;> omega)).at 0 rfl, (fq.blk HB0.out (by simp <;> omega)).at 1 rfl, (fq.blk HB1.out (by simp <;> omega)).at 0 rfl, (fq.blk HB1.out (by simp <;> omega)).at 1 rfl, (fq.blk HB2.out (by simp <;> omega)).at 0 rfl, (fq.blk HB2.out (by simp <;> omega)).at 1 rfl⟩)
  obtain ⟨o0, o1, o2, o3, o4, o5⟩ := SS.out _ (Fr.refl _ w0)
  have HL := Lib.hid (sec_left p q)
  go_wp2_with (first
    | (go_at_call 10; refine (of_any _ _ _).mono ?_; rintro e _ ⟨rfl, rfl⟩)
    | (go_at_call_of 24 (Value.complex FloatKind.f64 p q); refine (sector_any _ _ _).mono ?_; rintro e _ ⟨rfl, rfl⟩; go_upto_region 3 with fail))
  (with_reducible refine (sector_any _ _ _).mono ?_)
  rintro e _ ⟨rfl, rfl⟩
  generalize sec p q = s at *
  generalize sec (neg q) p = t at *
  go_upto_region 4 with fail
  go_cut [50] (fun s50 wx => s50 = .bool false ∧ wx = w0)
  case first =>
    have hcs : (s = -1 ∧ t = -1) ∨ (s = 0 ∧ t = 2) ∨ (s = 1 ∧ t = 3) ∨ (s = 2 ∧ t = 4) ∨ (s = 3 ∧ t = 5) ∨ (s = 4 ∧ t = 6) ∨ (s = 5 ∧ t = 7) ∨ (s = 6 ∧ t = 0) ∨ (s = 7 ∧ t = 1) := by have := HL.out; omega
    clear HL
    rcases hcs with ⟨rfl, rfl⟩ | ⟨rfl, rfl⟩ | ⟨rfl, rfl⟩ | ⟨rfl, rfl⟩ | ⟨rfl, rfl⟩ | ⟨rfl, rfl⟩ | ⟨rfl, rfl⟩ | ⟨rfl, rfl⟩ | ⟨rfl, rfl⟩
    all_goals
      go_wp2_with fail
      go_meet
      case rel => exact ⟨rfl, rfl⟩
  case rest =>
    obtain ⟨rfl, hwx⟩ := hcut
    subst hwx
    clear HL
    go_wp2_with fail
    (with_reducible refine (M5.out _).mono ?_)
    rintro e w1 ⟨r, i, rfl, hh, f1⟩
    have HH := Lib.hid hh
    have G1 := Lib.hid f1
    clear hh f1 o0 o1 o2 o3 o4 o5
    obtain ⟨o0, o1, o2, o3, o4, o5⟩ := SS.out _ G1.out
    by_cases hpq : a = c ∧ b = d
    · obtain ⟨rfl, rfl⟩ := hpq
      have hz : r = 0 ∧ i = 0 := by
        rcases HH.out with ⟨_, h1, h2⟩ | ⟨h1, _⟩
        · exact ⟨h1, h2⟩
        · exact absurd ⟨rfl, rfl⟩ h1
      obtain ⟨rfl, rfl⟩ := hz
      have j0 : feq 0 0 = true := by decide
      go_wp2_with (go_at_call 26; refine (lives_any _).mono ?_; rintro _ wl ⟨rfl, fl⟩)
      go_ret
      exact ⟨rfl, HF.out.trans (G1.out.trans fl (by simp)) (by simp)⟩
    · have hhead : HeadR (c - a) (d - b) r i := by
        rcases HH.out with ⟨h1, _⟩ | ⟨_, h1⟩
        · exact absurd h1 hpq
        · exact h1
      have HH2 := Lib.hid hhead
      have HNZ := Lib.hid (show ¬ (c - a = 0 ∧ d - b = 0) by omega)
      have HSEC := Lib.hid (heading_sector HM.out.1 HM.out.2 HNZ.out hhead)
      have hne : ¬ a = c ∨ (a = c ∧ ¬ b = d) := by omega
      have e1 : IntKind.i64.wrap a = a := wrap_i32 HI.out.1
      have e2 : IntKind.i64.wrap b = b := wrap_i32 HI.out.2.1
      have e3 : IntKind.i64.wrap c = c := wrap_i32 HI.out.2.2.1
      have e4 : IntKind.i64.wrap d = d := wrap_i32 HI.out.2.2.2
      have e5 : wrap64 (c - a) = c - a := IntWalk.wrap64_in _ (by have := HM.out.1; omega)
      have e6 : wrap64 (d - b) = d - b := IntWalk.wrap64_in _ (by have := HM.out.2; omega)
      clear hhead hpq HH
      have hne2 : a ≠ c ∨ b ≠ d := by omega
      clear hne
      rcases hne2 with h1 | h1
      all_goals
        go_upto_region 11 with fail
        have gc := mulV_gives w1 r r
        have gd := mulV_gives (mulW w1 r r) i i
        have gt := addV_gives (mulW (mulW w1 r r) i i) (mulV w1 r r) (mulV (mulW w1 r r) i i)
        have GT := Lib.hid (And.intro gc (And.intro gd gt))
        have G2 := Lib.hid (((G1.out.mulW r r).mulW i i).addW (mulV w1 r r) (mulV (mulW w1 r r) i i))
        clear gc gd gt e1 e2 e3 e4 e5 e6 h1 o0 o1 o2 o3 o4 o5
        generalize hw5 : addW (mulW (mulW w1 r r) i i) (mulV w1 r r) (mulV (mulW w1 r r) i i) = w5v at *
        generalize addV (mulW (mulW w1 r r) i i) (mulV w1 r r) (mulV (mulW w1 r r) i i) = tt at *
        generalize mulV (mulW w1 r r) i i = dd at *
        generalize mulV w1 r r = cc at *
        obtain ⟨w5, hw6⟩ : ∃ w5, w5 = w5v := ⟨_, rfl⟩
        rw [← hw6] at G2
        rw [← hw6]
        clear hw6 hw5
        generalize c - a = m at *
        generalize d - b = n at *
        go_wp2_with (first
          | (go_at_call_of 24 (Value.complex FloatKind.f64 r i); refine (sector_any _ _ _).mono ?_; rintro e _ ⟨rfl, rfl⟩; rw [HSEC.out])
          | (go_at_call 24; refine (sector_any _ _ _).mono ?_; rintro e _ ⟨rfl, rfl⟩)
          | (go_at_call 35; refine (abs_any _ _ (sub_wf (subV_gives w5 tt 4607182418800017408))).mono ?_; rintro e _ ⟨rfl, rfl⟩; have j1 := heading_long HM.out.1 HM.out.2 HNZ.out HH2.out GT.out.1 GT.out.2.1 GT.out.2.2 (subV_gives w5 tt 4607182418800017408))
          | (go_at_call 26; refine (lives_any _).mono ?_; rintro _ wl ⟨rfl, fl⟩))
        go_ret
        exact ⟨rfl, HF.out.trans ((G2.out.subW _ _).trans fl (by simp)) (by simp)⟩
set_option maxRecDepth 100000 in
theorem lifted (os : Os) (started : os.Started) (H : Type) (enc : TypeId × Value → H) :
    ReturnsInHanded {} Try.checked os 7 .any (Rows.turnHeadsSpec.pre6 enc Try.prog Try.f7 Rows.turnHeadsRow.domain false) (Rows.turnHeadsSpec.post enc Try.prog Try.f7 false true false false) := by
  refine returnsInHanded_of_change (C := Try.checked) own started (by kernel_rfl) Try.func7
    (ChangeSpec.witness6 (enc := enc) (C := Try.checked) false ⟨#[], #[.agg #[.int .i32 0, .int .i32 0], .agg #[.int .i32 0, .int .i32 0], .agg #[.int .u64 0, .int .u64 0]], []⟩ 8 (by kernel_rfl) (by kernel_rfl) (by kernel_rfl) (by kernel_rfl)) ?_
  intro W base args ds gs before hval0 hW hcnd _
  have hval : ∀ (j : Nat) t v, Try.f7.params[j]? = some t → args[j]? = some v → Value.okWide Try.prog W .any base t v := hval0
  have hW' := hW
  obtain ⟨p, q, hA, hV, rfl, hfz, hnd⟩ := hW
  rw [Try.params7] at hA hval
  obtain ⟨v0, v1, v2, d0, d1, d2, p0, p1, p2, hargs, rfl, rfl, h0, h1, h2⟩ := trodAll_three hA
  obtain ⟨rfl, rfl⟩ := trodVars_none hV
  have : args = #[v0, v1, v2] := by simpa using hargs
  subst this
  obtain ⟨fu0, l0, rfl, e0⟩ := open_agg Try.underlying64 (hval 0 64 v0 rfl rfl) h0
  obtain ⟨a, b, rfl, ha, hb⟩ := read_point e0
  obtain ⟨fu1, l1, rfl, e1⟩ := open_agg Try.underlying64 (hval 1 64 v1 rfl rfl) h1
  obtain ⟨c, d, rfl, hc, hd⟩ := read_point e1
  obtain ⟨fu2, l2, rfl, e2⟩ := open_arr Try.underlying25 (hval 2 25 v2 rfl rfl) h2
  obtain ⟨p3, q3, rfl⟩ := read_bits e2
  refine (walk W a b c d p3 q3 ha hb hc hd).mono fun e W' ⟨he, hg⟩ => ?_
  exact ⟨_, he, law_post (tb := 4) laidOut (by
    rw [Try.params7]; intro t ht; simp at ht
    rcases ht with rfl | rfl
    · exact ⟨by kernel_rfl, of_decide_eq_true (by kernel_rfl)⟩
    · exact ⟨by kernel_rfl, of_decide_eq_true (by kernel_rfl)⟩) rfl Try.underlying4 rfl hW' rfl hg⟩
theorem over : Rows.turnHeadsRow.holds Try.pinned (OpenSpec.ofChange Rows.turnHeadsSpec) :=
  OpenClaim.holds_of_wide 7 Try.f7 rfl rfl rfl rfl rfl rfl rfl ⟨rfl, rfl, rfl, rfl, rfl⟩ rfl rfl rfl rfl rfl (by kernel_rfl) Try.func7 (by kernel_rfl)
    (of_decide_eq_true (by kernel_rfl)) (by unfold Func.isWrapper; first | (rw [if_pos (by decide +kernel)]; kernel_rfl) | (rw [if_neg (by decide +kernel)]; exact ⟨rfl, rfl⟩))
    (fun os started H enc _ => lifted os started H enc)
/-- The statement TurnHeads. -/
theorem proved : Rows.TurnHeadsSaid := over
#print axioms proved
end heads
end Go.Proofs.Ytkbcdfniocmamaa
