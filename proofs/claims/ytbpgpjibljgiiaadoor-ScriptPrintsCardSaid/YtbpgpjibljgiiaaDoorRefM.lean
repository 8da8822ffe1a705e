/-
  Script, the document: whether a step may be. Printed by genMy.py.
-/
import Derived.Test.YtbpgpjibljgiiaaDoorRefF
namespace Go.Proofs.YtbpgpjibljgiiaaDoor
open Go.RowKit
set_option linter.unusedVariables false
set_option linter.unusedSimpArgs false
attribute [local go_sem] Oper.semAt_some
theorem results_st1 {fn : Func} {p : Tmp} (h : fn.results = #[.cell p 44]) (tmps : Array Value) (w : World) (g : Nat) (v : Value) (hp : tmps.getD p undef = .pointer (some ⟨g, 0, none⟩)) (hv : st? w g = some v) :
    (results fn tmps).run Tryd.prog w = .ok v w := by
  have hp' : tmps[p]?.getD undef = .pointer (some ⟨g, 0, none⟩) := by simpa using hp
  simp [results, h, hp', asAddr, loadVar_st w g v hv, Result.andThen]
namespace Sc
/-- A kind's word, the letters of its fields. -/
def wrdB : Nat → ByteArray × ByteArray
  | 1 => (⟨#[99, 111, 109, 109, 97, 110, 100]⟩, ⟨#[66]⟩)
  | 2 => (⟨#[108, 97, 110, 101]⟩, ⟨#[78]⟩)
  | 3 => (⟨#[116, 117, 114, 110]⟩, ⟨#[]⟩)
  | 4 => (⟨#[116, 105, 99, 107]⟩, ⟨#[]⟩)
  | 5 => (⟨#[100, 111, 119, 110]⟩, ⟨#[78, 78]⟩)
  | 6 => (⟨#[117, 112]⟩, ⟨#[78, 78]⟩)
  | 7 => (⟨#[108, 111, 115, 101, 32, 100, 111, 119, 110]⟩, ⟨#[78, 78]⟩)
  | 8 => (⟨#[108, 111, 115, 101, 32, 117, 112]⟩, ⟨#[78, 78]⟩)
  | 9 => (⟨#[116, 119, 105, 99, 101, 32, 100, 111, 119, 110]⟩, ⟨#[78, 78]⟩)
  | 10 => (⟨#[116, 119, 105, 99, 101, 32, 117, 112]⟩, ⟨#[78, 78]⟩)
  | _ => (⟨#[]⟩, ⟨#[]⟩)
set_option maxRecDepth 100000 in
theorem word_any (w : World) (k : Nat) : Calls Tryd.prog 37 #[.int .u8 k] w fun e w' => e = .returned (.tuple #[.string (wrdB k).1, .string (wrdB k).2]) ∧ w' = w := by
  by_cases h : 1 ≤ k ∧ k ≤ 10
  · have hc : k = 1 ∨ k = 2 ∨ k = 3 ∨ k = 4 ∨ k = 5 ∨ k = 6 ∨ k = 7 ∨ k = 8 ∨ k = 9 ∨ k = 10 := by omega
    rcases hc with rfl | rfl | rfl | rfl | rfl | rfl | rfl | rfl | rfl | rfl
    all_goals
      clear h
      go_enter Tryd.func37, Tryd.ntmps37
      go_wp2
      go_ret2
      exact ⟨rfl, rfl⟩
  · have e : wrdB k = (⟨#[]⟩, ⟨#[]⟩) := by
      unfold wrdB
      split <;> first | omega | rfl
    rw [e]
    have k1 : ((k : Int) == 1) = false := by rw [beq_eq_false_iff_ne]; omega
    have k2 : ((k : Int) == 2) = false := by rw [beq_eq_false_iff_ne]; omega
    have k3 : ((k : Int) == 3) = false := by rw [beq_eq_false_iff_ne]; omega
    have k4 : ((k : Int) == 4) = false := by rw [beq_eq_false_iff_ne]; omega
    have k5 : ((k : Int) == 5) = false := by rw [beq_eq_false_iff_ne]; omega
    have k6 : ((k : Int) == 6) = false := by rw [beq_eq_false_iff_ne]; omega
    have k7 : ((k : Int) == 7) = false := by rw [beq_eq_false_iff_ne]; omega
    have k8 : ((k : Int) == 8) = false := by rw [beq_eq_false_iff_ne]; omega
    have k9 : ((k : Int) == 9) = false := by rw [beq_eq_false_iff_ne]; omega
    have k10 : ((k : Int) == 10) = false := by rw [beq_eq_false_iff_ne]; omega
    clear h e
    go_enter Tryd.func37, Tryd.ntmps37
    go_wp2
    go_ret2
    exact ⟨rfl, rfl⟩
/-- Numbers of bytes. -/
def Byt (l : List Int) : Prop := ∀ z ∈ l, 0 ≤ z ∧ z < 256
theorem strOfNums_inj : ∀ {a b : List Int}, Byt a → Byt b → strOfNums a = strOfNums b → a = b := by
  intro a b ha hb h
  have h2 : a.map (fun n => UInt8.ofNat n.toNat) = b.map (fun n => UInt8.ofNat n.toNat) := by
    have := congrArg (fun x : ByteArray => x.data.toList) h
    simpa [strOfNums] using this
  clear h
  induction a generalizing b with
  | nil =>
    cases b with
    | nil => rfl
    | cons y b => simp at h2
  | cons x a ih =>
    cases b with
    | nil => simp at h2
    | cons y b =>
      simp only [List.map_cons, List.cons.injEq] at h2
      have hx := ha x (by simp)
      have hy := hb y (by simp)
      have h3 := congrArg UInt8.toNat h2.1
      rw [UInt8.toNat_ofNat', UInt8.toNat_ofNat'] at h3
      rw [show x = y by omega, ih (fun z hz => ha z (by simp [hz])) (fun z hz => hb z (by simp [hz])) h2.2]
theorem St.ne {a b : St} (h : a.kd ≠ b.kd ∨ a.la ≠ b.la ∨ a.sl ≠ b.sl ∨ a.pl ≠ b.pl ∨ a.by' ≠ b.by') : decide (a = b) = false := by
  refine decide_eq_false fun e => ?_
  subst e
  rcases h with h | h | h | h | h <;> exact h rfl
theorem St.eq {a b : St} (h1 : a.kd = b.kd) (h2 : a.la = b.la) (h3 : a.sl = b.sl) (h4 : a.pl = b.pl) (h5 : a.by' = b.by') : decide (a = b) = true := by
  refine decide_eq_true ?_
  cases a; cases b
  simp at h1 h2 h3 h4 h5
  subst h1; subst h2; subst h3; subst h4; subst h5
  rfl
set_option maxRecDepth 100000 in
set_option maxHeartbeats 4000000 in
theorem same_step_any (w : World) (a b : St) (va vb : Value) (ha : Rd w va (u8s a.by')) (hb : Rd w vb (u8s b.by')) (hba : Byt a.by') (hbb : Byt b.by') :
    Calls Tryd.prog 15 #[a.val va, b.val vb] w fun e w' => e = .returned (.bool (decide (a = b))) ∧ Fr [] w w' := by
  have f0 : Fr [] w ((w.alloc (.cells #[.int .u8 a.kd, .int .i64 a.la, .int .i64 a.sl, .int .i64 a.pl, va] 44)).alloc (.cells #[.int .u8 b.kd, .int .i64 b.la, .int .i64 b.sl, .int .i64 b.pl, vb] 44)) := ((Fr.refl [] w).alloc _).alloc _
  have cva := conv_rd _ va _ (ha.grow f0)
  have cvb := conv_rd _ vb _ (hb.grow f0)
  have HF := Lib.hid f0
  have HI := Lib.hid (fun h => strOfNums_inj (a := a.by') (b := b.by') hba hbb h)
  obtain ⟨ra, hra⟩ : ∃ x, x = decide (a = b) := ⟨_, rfl⟩
  have HRA := Lib.hid hra
  rw [← hra]
  obtain ⟨ta, hta⟩ : ∃ x, x = strOfNums a.by' := ⟨_, rfl⟩
  obtain ⟨tb, htb⟩ : ∃ x, x = strOfNums b.by' := ⟨_, rfl⟩
  rw [← hta] at cva
  rw [← htb] at cvb
  have HTT := Lib.hid (And.intro hta htb)
  show Calls Tryd.prog 15 #[.agg #[.int .u8 a.kd, .int .i64 a.la, .int .i64 a.sl, .int .i64 a.pl, va], .agg #[.int .u8 b.kd, .int .i64 b.la, .int .i64 b.sl, .int .i64 b.pl, vb]] w _
  clear ha hb hba hbb f0 hra hta htb
  by_cases h1 : a.kd = b.kd
  · have d1 : ((a.kd : Int) == (b.kd : Int)) = true := by rw [beq_iff_eq]; omega
    by_cases h2 : a.la = b.la
    · have d2 : (a.la == b.la) = true := by rw [beq_iff_eq]; exact h2
      by_cases h3 : a.sl = b.sl
      · have d3 : (a.sl == b.sl) = true := by rw [beq_iff_eq]; exact h3
        by_cases h4 : a.pl = b.pl
        · have d4 : (a.pl == b.pl) = true := by rw [beq_iff_eq]; exact h4
          by_cases h5 : a.by' = b.by'
          · obtain rfl : ra = true := by rw [HRA.out]; exact St.eq h1 h2 h3 h4 h5
            have d5 : (ta.toList == tb.toList) = true := by rw [HTT.out.1, HTT.out.2, h5]; exact beq_self_eq_true _
            clear h1 h2 h3 h4 h5
            go_enter Tryd.func15, Tryd.ntmps15
            go_wp2
            go_ret
            exact ⟨rfl, HF.out⟩
          · obtain rfl : ra = false := by rw [HRA.out]; exact St.ne (.inr (.inr (.inr (.inr h5))))
            have d5 : (ta.toList == tb.toList) = false := by rw [HTT.out.1, HTT.out.2]; exact beq_not (fun e => h5 (HI.out e))
            clear h1 h2 h3 h4 h5
            go_enter Tryd.func15, Tryd.ntmps15
            go_wp2
            go_ret
            exact ⟨rfl, HF.out⟩
        · obtain rfl : ra = false := by rw [HRA.out]; exact St.ne (.inr (.inr (.inr (.inl h4))))
          have d4 : (a.pl == b.pl) = false := by rw [beq_eq_false_iff_ne]; exact h4
          clear h1 h2 h3 h4
          go_enter Tryd.func15, Tryd.ntmps15
          go_wp2
          go_ret
          exact ⟨rfl, HF.out⟩
      · obtain rfl : ra = false := by rw [HRA.out]; exact St.ne (.inr (.inr (.inl h3)))
        have d3 : (a.sl == b.sl) = false := by rw [beq_eq_false_iff_ne]; exact h3
        clear h1 h2 h3
        go_enter Tryd.func15, Tryd.ntmps15
        go_wp2
        go_ret
        exact ⟨rfl, HF.out⟩
    · obtain rfl : ra = false := by rw [HRA.out]; exact St.ne (.inr (.inl h2))
      have d2 : (a.la == b.la) = false := by rw [beq_eq_false_iff_ne]; exact h2
      clear h1 h2
      go_enter Tryd.func15, Tryd.ntmps15
      go_wp2
      go_ret
      exact ⟨rfl, HF.out⟩
  · obtain rfl : ra = false := by rw [HRA.out]; exact St.ne (.inl h1)
    have d1 : ((a.kd : Int) == (b.kd : Int)) = false := by rw [beq_eq_false_iff_ne]; omega
    clear h1
    go_enter Tryd.func15, Tryd.ntmps15
    go_wp2
    go_ret
    exact ⟨rfl, HF.out⟩
/-- A step with the fields of its kind alone. -/
def bareS (s : St) : St := if (wrdB s.kd).2 = ⟨#[66]⟩ then ⟨s.kd, 0, 0, 0, s.by'⟩ else if (wrdB s.kd).2 = ⟨#[78]⟩ then ⟨s.kd, s.la, 0, 0, []⟩ else if (wrdB s.kd).2 = ⟨#[78, 78]⟩ then ⟨s.kd, 0, s.sl, s.pl, []⟩ else ⟨s.kd, 0, 0, 0, []⟩
def bareV (s : St) (bv : Value) : Value := if (wrdB s.kd).2 = ⟨#[66]⟩ then bv else .slice none 0 0
theorem nilRd (W : World) : Rd W (.slice none 0 0) (u8s []) := ⟨none, 0, rfl, Nat.le_refl _, .inl rfl⟩
theorem bare_rd {W : World} {s : St} {bv : Value} (h : Rd W bv (u8s s.by')) : Rd W (bareV s bv) (u8s (bareS s).by') := by
  unfold bareV bareS
  split
  · exact h
  · split
    · exact nilRd W
    · split <;> exact nilRd W
theorem bare_byt {s : St} (h : Byt s.by') : Byt (bareS s).by' := by
  unfold bareS
  split
  · exact h
  · split
    · intro z hz; cases hz
    · split <;> (intro z hz; cases hz)
set_option maxRecDepth 100000 in
set_option maxHeartbeats 4000000 in
theorem bare_any (w : World) (s : St) (bp : Option Addr) (bn bc : Nat) :
    Calls Tryd.prog 61 #[s.val (.slice bp bn bc)] w fun e w' => e = .returned ((bareS s).val (bareV s (.slice bp bn bc))) ∧ Fr [] w w' := by
  obtain ⟨R, hR⟩ : ∃ R, R = (bareS s).val (bareV s (.slice bp bn bc)) := ⟨_, rfl⟩
  rw [← hR]
  have HR := Lib.hid hR
  obtain ⟨L, hL⟩ : ∃ L, L = (wrdB s.kd).2 := ⟨_, rfl⟩
  have HW := Lib.hid (fun W => show Calls Tryd.prog 37 #[.int .u8 s.kd] W fun e w' => e = .returned (.tuple #[.string (wrdB s.kd).1, .string L]) ∧ w' = W from by rw [hL]; exact word_any W s.kd)
  have HL := Lib.hid hL
  show Calls Tryd.prog 61 #[.agg #[.int .u8 s.kd, .int .i64 s.la, .int .i64 s.sl, .int .i64 s.pl, .slice bp bn bc]] w _
  generalize (wrdB s.kd).1 = X at HW
  obtain ⟨w0, hw0⟩ : ∃ w0, (w.alloc (.cells #[.int .u8 s.kd, .int .i64 s.la, .int .i64 s.sl, .int .i64 s.pl, .slice bp bn bc] 44)).alloc (.cells #[.int .u8 0, .int .i64 0, .int .i64 0, .int .i64 0, .slice none 0 0] 44) = w0 := ⟨_, rfl⟩
  obtain ⟨xb, hxb⟩ : ∃ xb, xb = w.heap.size := ⟨_, rfl⟩
  obtain ⟨rb, hrb⟩ : ∃ rb, rb = (w.alloc (.cells #[.int .u8 s.kd, .int .i64 s.la, .int .i64 s.sl, .int .i64 s.pl, .slice bp bn bc] 44)).heap.size := ⟨_, rfl⟩
  have hx0 : Blk w0 xb #[.int .u8 s.kd, .int .i64 s.la, .int .i64 s.sl, .int .i64 s.pl, .slice bp bn bc] 44 := by rw [← hw0]; exact (Blk.new_at hxb _ _).alloc _
  have hr0 : Blk w0 rb #[.int .u8 0, .int .i64 0, .int .i64 0, .int .i64 0, .slice none 0 0] 44 := by rw [← hw0]; exact Blk.new_at hrb _ _
  have hf0 : Fr [] w w0 := by rw [← hw0]; exact ((Fr.refl [] w).alloc _).alloc _
  have hrb2 : rb = xb + 1 := by rw [hrb, hxb]; simp
  have H0 := Lib.hid (And.intro hx0 (And.intro hr0 (And.intro hf0 (And.intro hrb2 hxb))))
  have HW0 := Lib.hid hw0
  clear hR hL hw0 hxb hrb hx0 hr0 hf0 hrb2
  go_enter Tryd.func61, Tryd.ntmps61
  go_upto_region 1 with fail
  rw [HW0.out, ← H0.out.2.2.2.2, ← H0.out.2.2.2.1]
  have c0 := H0.out.1.at 0 (v := .int .u8 s.kd) rfl
  go_wp2_with fail
  (with_reducible refine (HW.out _).mono ?_)
  rintro e wz ⟨rfl, hwz⟩
  rw [hwz]
  clear hwz
  have q4 : can5 (w0.alloc (.cells #[.int .u8 0, .int .i64 0, .int .i64 0, .int .i64 0, .slice none 0 0] 44)) w0.heap.size = true := (Blk.new w0 _ 44).can5
  have o1 : (Value.int .u8 s.kd).oneCell' = true := rfl
  have o2 : ∀ z : Int, (Value.int .i64 z).oneCell' = true := fun _ => rfl
  have o3 : (Value.slice none 0 0).oneCell' = true := rfl
  obtain ⟨w1, hw1⟩ : ∃ w1, layS (w0.alloc (.cells #[.int .u8 0, .int .i64 0, .int .i64 0, .int .i64 0, .slice none 0 0] 44)) w0.heap.size (.int .u8 s.kd) (.int .i64 0) (.int .i64 0) (.int .i64 0) (.slice none 0 0) = w1 := ⟨_, rfl⟩
  obtain ⟨ob, hob⟩ : ∃ ob, ob = w0.heap.size := ⟨_, rfl⟩
  have ho1 : Blk w1 ob #[.int .u8 s.kd, .int .i64 0, .int .i64 0, .int .i64 0, .slice none 0 0] 44 := by rw [← hw1, hob]; exact (Blk.new w0 _ 44).lay _ _ _ _ _
  have hf1 : Fr [] w0 w1 := by rw [← hw1]; exact ((Fr.refl [] w0).alloc _).lay _ _ _ _ _ _ (.inr (Nat.le_refl _))
  have H1 := Lib.hid (show Blk w1 ob _ 44 ∧ Blk w1 xb _ 44 ∧ Blk w1 rb _ 44 ∧ Fr [] w w1 ∧ xb < ob ∧ rb < ob ∧ rb ≠ xb ∧ w.heap.size ≤ ob from ⟨ho1, hf1.blk H0.out.1 (by simp), hf1.blk H0.out.2.1 (by simp), H0.out.2.2.1.trans hf1 (by simp), by rw [hob]; exact H0.out.1.lt, by rw [hob]; exact H0.out.2.1.lt, by have := H0.out.2.2.2.1; omega, by rw [hob]; exact H0.out.2.2.1.size⟩)
  have HW1 := Lib.hid hw1
  have HOB := Lib.hid hob
  clear hw1 ho1 hf1 hob
  go_upto_region 3 with fail
  rw [HW1.out, ← HOB.out]
  clear q4 c0
  have x1 := H1.out.2.1.at 1 (v := .int .i64 s.la) rfl
  have x2 := H1.out.2.1.at 2 (v := .int .i64 s.sl) rfl
  have x3 := H1.out.2.1.at 3 (v := .int .i64 s.pl) rfl
  have x4 := H1.out.2.1.at 4 (v := .slice bp bn bc) rfl
  have y1 := H1.out.1.at 1 (v := .int .i64 0) rfl
  have y2 := H1.out.1.at 2 (v := .int .i64 0) rfl
  have y3 := H1.out.1.at 3 (v := .int .i64 0) rfl
  have y4 := H1.out.1.at 4 (v := .slice none 0 0) rfl
  have g1 := H1.out.1.free 1
  have g2 := H1.out.1.free 2
  have g3 := H1.out.1.free 3
  have g4 := H1.out.1.free 4
  by_cases h66 : L = ⟨#[66]⟩
  · have e66 : (L.toList == [66]) = true := by rw [show ([66] : List UInt8) = (⟨#[66]⟩ : ByteArray).toList by kernel_rfl]; exact beq_is h66
    have HLL := Lib.hid h66
    clear h66
    obtain ⟨w2, hw2⟩ : ∃ w2, (w1.setCell ⟨ob, 4, none⟩ (.slice bp bn bc)) = w2 := ⟨_, rfl⟩
    have ho2 : Blk w2 ob #[.int .u8 s.kd, .int .i64 0, .int .i64 0, .int .i64 0, .slice bp bn bc] 44 := by rw [← hw2]; exact (H1.out.1.set 4 _)
    have hf2 : Fr [ob] w1 w2 := by rw [← hw2]; exact ((Fr.refl [ob] w1).setCell _ _ (.inl (by simp)))
    have hr2 := hf2.blk H1.out.2.2.1 (by have := H1.out.2.2.2.2.2.1; simp; omega)
    have q5 := ho2.st
    have q4 : can5 w2 rb = true := hr2.can5
    have H2 := Lib.hid (And.intro hr2 hf2)
    have HW2 := Lib.hid hw2
    have o5 : (Value.slice bp bn bc).oneCell' = true := rfl
    clear hw2 ho2 hf2 hr2
    go_upto_region 11 with fail
    rw [HW2.out]
    clear x1 x2 x3 x4 y1 y2 y3 y4 g1 g2 g3 g4
    go_wp2_with fail
    have hl : Fr [rb] w2 (layS w2 rb (.int .u8 s.kd) (.int .i64 0) (.int .i64 0) (.int .i64 0) (.slice bp bn bc)) := (Fr.refl _ _).lay _ _ _ _ _ _ (.inl (by simp))
    refine bodyPost_ret (v := .agg #[.int .u8 s.kd, .int .i64 0, .int .i64 0, .int .i64 0, .slice bp bn bc]) ?_ rfl ⟨?_, ?_⟩
    · exact results_st1 rfl _ _ rb _ rfl (H2.out.1.lay _ _ _ _ _).st
    · rw [HR.out]
      unfold bareS bareV St.val
      rw [← HL.out]
      rw [HLL.out]
      rfl
    · exact (H1.out.2.2.2.1.trans H2.out.2 (fun x hx => .inr (by have := H1.out.2.2.2.2.2.2.2; simp at hx; omega))).trans hl (fun x hx => .inr (by have := H0.out.2.2.2.1; have := H0.out.2.2.2.2; simp at hx; omega))
  · have e66 : (L.toList == [66]) = false := by rw [show ([66] : List UInt8) = (⟨#[66]⟩ : ByteArray).toList by kernel_rfl]; exact beq_not h66
    by_cases h78 : L = ⟨#[78]⟩
    · have e78 : (L.toList == [78]) = true := by rw [show ([78] : List UInt8) = (⟨#[78]⟩ : ByteArray).toList by kernel_rfl]; exact beq_is h78
      have HLL := Lib.hid h78
      clear h66 h78
      obtain ⟨w2, hw2⟩ : ∃ w2, (w1.setCell ⟨ob, 1, none⟩ (.int .i64 s.la)) = w2 := ⟨_, rfl⟩
      have ho2 : Blk w2 ob #[.int .u8 s.kd, .int .i64 s.la, .int .i64 0, .int .i64 0, .slice none 0 0] 44 := by rw [← hw2]; exact (H1.out.1.set 1 _)
      have hf2 : Fr [ob] w1 w2 := by rw [← hw2]; exact ((Fr.refl [ob] w1).setCell _ _ (.inl (by simp)))
      have hr2 := hf2.blk H1.out.2.2.1 (by have := H1.out.2.2.2.2.2.1; simp; omega)
      have q5 := ho2.st
      have q4 : can5 w2 rb = true := hr2.can5
      have H2 := Lib.hid (And.intro hr2 hf2)
      have HW2 := Lib.hid hw2
      have o5 : (Value.slice bp bn bc).oneCell' = true := rfl
      clear hw2 ho2 hf2 hr2
      go_upto_region 11 with fail
      rw [HW2.out]
      clear x1 x2 x3 x4 y1 y2 y3 y4 g1 g2 g3 g4
      go_wp2_with fail
      have hl : Fr [rb] w2 (layS w2 rb (.int .u8 s.kd) (.int .i64 s.la) (.int .i64 0) (.int .i64 0) (.slice none 0 0)) := (Fr.refl _ _).lay _ _ _ _ _ _ (.inl (by simp))
      refine bodyPost_ret (v := .agg #[.int .u8 s.kd, .int .i64 s.la, .int .i64 0, .int .i64 0, .slice none 0 0]) ?_ rfl ⟨?_, ?_⟩
      · exact results_st1 rfl _ _ rb _ rfl (H2.out.1.lay _ _ _ _ _).st
      · rw [HR.out]
        unfold bareS bareV St.val
        rw [← HL.out]
        rw [HLL.out]
        rfl
      · exact (H1.out.2.2.2.1.trans H2.out.2 (fun x hx => .inr (by have := H1.out.2.2.2.2.2.2.2; simp at hx; omega))).trans hl (fun x hx => .inr (by have := H0.out.2.2.2.1; have := H0.out.2.2.2.2; simp at hx; omega))
    · have e78 : (L.toList == [78]) = false := by rw [show ([78] : List UInt8) = (⟨#[78]⟩ : ByteArray).toList by kernel_rfl]; exact beq_not h78
      by_cases h7878 : L = ⟨#[78, 78]⟩
      · have e7878 : (L.toList == [78, 78]) = true := by rw [show ([78, 78] : List UInt8) = (⟨#[78, 78]⟩ : ByteArray).toList by kernel_rfl]; exact beq_is h7878
        have HLL := Lib.hid h7878
        clear h66 h78 h7878
        obtain ⟨w2, hw2⟩ : ∃ w2, ((w1.setCell ⟨ob, 2, none⟩ (.int .i64 s.sl)).setCell ⟨ob, 3, none⟩ (.int .i64 s.pl)) = w2 := ⟨_, rfl⟩
        have ho2 : Blk w2 ob #[.int .u8 s.kd, .int .i64 0, .int .i64 s.sl, .int .i64 s.pl, .slice none 0 0] 44 := by rw [← hw2]; exact ((H1.out.1.set 2 _).set 3 _)
        have hf2 : Fr [ob] w1 w2 := by rw [← hw2]; exact (((Fr.refl [ob] w1).setCell _ _ (.inl (by simp))).setCell _ _ (.inl (by simp)))
        have hr2 := hf2.blk H1.out.2.2.1 (by have := H1.out.2.2.2.2.2.1; simp; omega)
        have q5 := ho2.st
        have q4 : can5 w2 rb = true := hr2.can5
        have H2 := Lib.hid (And.intro hr2 hf2)
        have HW2 := Lib.hid hw2
        have o5 : (Value.slice bp bn bc).oneCell' = true := rfl
        clear hw2 ho2 hf2 hr2
        go_upto_region 11 with fail
        rw [HW2.out]
        clear x1 x2 x3 x4 y1 y2 y3 y4 g1 g2 g3 g4
        go_wp2_with fail
        have hl : Fr [rb] w2 (layS w2 rb (.int .u8 s.kd) (.int .i64 0) (.int .i64 s.sl) (.int .i64 s.pl) (.slice none 0 0)) := (Fr.refl _ _).lay _ _ _ _ _ _ (.inl (by simp))
        refine bodyPost_ret (v := .agg #[.int .u8 s.kd, .int .i64 0, .int .i64 s.sl, .int .i64 s.pl, .slice none 0 0]) ?_ rfl ⟨?_, ?_⟩
        · exact results_st1 rfl _ _ rb _ rfl (H2.out.1.lay _ _ _ _ _).st
        · rw [HR.out]
          unfold bareS bareV St.val
          rw [← HL.out]
          rw [HLL.out]
          rfl
        · exact (H1.out.2.2.2.1.trans H2.out.2 (fun x hx => .inr (by have := H1.out.2.2.2.2.2.2.2; simp at hx; omega))).trans hl (fun x hx => .inr (by have := H0.out.2.2.2.1; have := H0.out.2.2.2.2; simp at hx; omega))
      · have e7878 : (L.toList == [78, 78]) = false := by rw [show ([78, 78] : List UInt8) = (⟨#[78, 78]⟩ : ByteArray).toList by kernel_rfl]; exact beq_not h7878
        have HLL := Lib.hid (And.intro h66 (And.intro h78 h7878))
        clear h66 h78 h7878
        obtain ⟨w2, hw2⟩ : ∃ w2, w1 = w2 := ⟨_, rfl⟩
        have ho2 : Blk w2 ob #[.int .u8 s.kd, .int .i64 0, .int .i64 0, .int .i64 0, .slice none 0 0] 44 := by rw [← hw2]; exact H1.out.1
        have hf2 : Fr [ob] w1 w2 := by rw [← hw2]; exact (Fr.refl [ob] w1)
        have hr2 := hf2.blk H1.out.2.2.1 (by have := H1.out.2.2.2.2.2.1; simp; omega)
        have q5 := ho2.st
        have q4 : can5 w2 rb = true := hr2.can5
        have H2 := Lib.hid (And.intro hr2 hf2)
        have HW2 := Lib.hid hw2
        have o5 : (Value.slice bp bn bc).oneCell' = true := rfl
        clear hw2 ho2 hf2 hr2
        go_upto_region 11 with fail
        rw [HW2.out]
        clear x1 x2 x3 x4 y1 y2 y3 y4 g1 g2 g3 g4
        go_wp2_with fail
        have hl : Fr [rb] w2 (layS w2 rb (.int .u8 s.kd) (.int .i64 0) (.int .i64 0) (.int .i64 0) (.slice none 0 0)) := (Fr.refl _ _).lay _ _ _ _ _ _ (.inl (by simp))
        refine bodyPost_ret (v := .agg #[.int .u8 s.kd, .int .i64 0, .int .i64 0, .int .i64 0, .slice none 0 0]) ?_ rfl ⟨?_, ?_⟩
        · exact results_st1 rfl _ _ rb _ rfl (H2.out.1.lay _ _ _ _ _).st
        · rw [HR.out]
          unfold bareS bareV St.val
          rw [← HL.out]
          rw [if_neg HLL.out.1, if_neg HLL.out.2.1, if_neg HLL.out.2.2, if_neg HLL.out.1]
        · exact (H1.out.2.2.2.1.trans H2.out.2 (fun x hx => .inr (by have := H1.out.2.2.2.2.2.2.2; simp at hx; omega))).trans hl (fun x hx => .inr (by have := H0.out.2.2.2.1; have := H0.out.2.2.2.2; simp at hx; omega))
theorem may_is (s : St) : mayS s = (decide (wordsL s.kd ≠ []) && decide (s = bareS s)) := by
  obtain ⟨kd, la, sl, pl, bl⟩ := s
  by_cases h : 1 ≤ kd ∧ kd ≤ 10
  · have hc : kd = 1 ∨ kd = 2 ∨ kd = 3 ∨ kd = 4 ∨ kd = 5 ∨ kd = 6 ∨ kd = 7 ∨ kd = 8 ∨ kd = 9 ∨ kd = 10 := by omega
    rw [decide_eq_true (wordsL_ne h), Bool.true_and]
    rcases hc with rfl | rfl | rfl | rfl | rfl | rfl | rfl | rfl | rfl | rfl
    · show (decide (la = 0) && decide (sl = 0) && decide (pl = 0)) = decide (_ = (⟨1, 0, 0, 0, bl⟩ : St))
      simp [Bool.decide_and, Bool.and_assoc]
    · show (decide (bl.length = 0) && decide (sl = 0) && decide (pl = 0)) = decide (_ = (⟨2, la, 0, 0, []⟩ : St))
      rw [Bool.eq_iff_iff]
      simp [List.length_eq_zero_iff]
      constructor
      · rintro ⟨⟨h1, h2⟩, h3⟩; exact ⟨h2, h3, h1⟩
      · rintro ⟨h1, h2, h3⟩; exact ⟨⟨h3, h1⟩, h2⟩
    · show (decide (bl.length = 0) && decide (la = 0) && decide (sl = 0) && decide (pl = 0)) = decide (_ = (⟨3, 0, 0, 0, []⟩ : St))
      rw [Bool.eq_iff_iff]
      simp [List.length_eq_zero_iff]
      constructor
      · rintro ⟨⟨⟨h1, h2⟩, h3⟩, h4⟩; exact ⟨h2, h3, h4, h1⟩
      · rintro ⟨h1, h2, h3, h4⟩; exact ⟨⟨⟨h4, h1⟩, h2⟩, h3⟩
    · show (decide (bl.length = 0) && decide (la = 0) && decide (sl = 0) && decide (pl = 0)) = decide (_ = (⟨4, 0, 0, 0, []⟩ : St))
      rw [Bool.eq_iff_iff]
      simp [List.length_eq_zero_iff]
      constructor
      · rintro ⟨⟨⟨h1, h2⟩, h3⟩, h4⟩; exact ⟨h2, h3, h4, h1⟩
      · rintro ⟨h1, h2, h3, h4⟩; exact ⟨⟨⟨h4, h1⟩, h2⟩, h3⟩
    all_goals
      show (true && decide (bl.length = 0) && decide (la = 0)) = decide (_ = (⟨_, 0, sl, pl, []⟩ : St))
      cases bl with
      | nil => simp
      | cons x l => simp
  · have e : mayS ⟨kd, la, sl, pl, bl⟩ = (decide (wordsL kd ≠ []) && decide (bl.length = 0) && decide (la = 0)) := by
      unfold mayS
      split <;> first | (exfalso; simp_all; done) | rfl
    rw [e, wordsL_nil h]
    rfl
theorem wrd_ne (k : Nat) : (wordsL k = []) = ((wrdB k).1 = ⟨#[]⟩) := by
  by_cases h : 1 ≤ k ∧ k ≤ 10
  · have hc : k = 1 ∨ k = 2 ∨ k = 3 ∨ k = 4 ∨ k = 5 ∨ k = 6 ∨ k = 7 ∨ k = 8 ∨ k = 9 ∨ k = 10 := by omega
    rcases hc with rfl | rfl | rfl | rfl | rfl | rfl | rfl | rfl | rfl | rfl
    all_goals
      refine propext (Iff.intro (fun q => by cases q) (fun q => ?_))
      have := congrArg ByteArray.size q
      exact absurd this (by decide)
  · rw [wordsL_nil h]
    have e : wrdB k = (⟨#[]⟩, ⟨#[]⟩) := by
      unfold wrdB
      split <;> first | omega | rfl
    rw [e]
    simp
set_option maxRecDepth 100000 in
set_option maxHeartbeats 4000000 in
theorem mayR_any (w : World) (s : St) (bv : Value) (hb : Rd w bv (u8s s.by')) (hby : Byt s.by') :
    Calls Tryd.prog 36 #[s.val bv] w fun e w' => e = .returned (.bool (mayS s)) ∧ Fr [] w w' := by
  obtain ⟨bp, bn, bc, rfl⟩ : ∃ p n c, bv = .slice p n c := by obtain ⟨p, c, rfl, _⟩ := hb; exact ⟨_, _, _, rfl⟩
  obtain ⟨W, hW⟩ : ∃ W, W = (wrdB s.kd).1 := ⟨_, rfl⟩
  obtain ⟨M, hM⟩ : ∃ M, M = mayS s := ⟨_, rfl⟩
  rw [← hM]
  have HM := Lib.hid hM
  have HW := Lib.hid (fun X => show Calls Tryd.prog 37 #[.int .u8 s.kd] X fun e w' => e = .returned (.tuple #[.string W, .string (wrdB s.kd).2]) ∧ w' = X from by rw [hW]; exact word_any X s.kd)
  generalize (wrdB s.kd).2 = L at HW
  show Calls Tryd.prog 36 #[.agg #[.int .u8 s.kd, .int .i64 s.la, .int .i64 s.sl, .int .i64 s.pl, .slice bp bn bc]] w _
  obtain ⟨w0, hw0⟩ : ∃ w0, w.alloc (.cells #[.int .u8 s.kd, .int .i64 s.la, .int .i64 s.sl, .int .i64 s.pl, .slice bp bn bc] 44) = w0 := ⟨_, rfl⟩
  obtain ⟨xb, hxb⟩ : ∃ xb, xb = w.heap.size := ⟨_, rfl⟩
  have hx0 : Blk w0 xb #[.int .u8 s.kd, .int .i64 s.la, .int .i64 s.sl, .int .i64 s.pl, .slice bp bn bc] 44 := by rw [← hw0]; exact Blk.new_at hxb _ _
  have hf0 : Fr [] w w0 := by rw [← hw0]; exact (Fr.refl [] w).alloc _
  have HB := Lib.hid hx0
  have HF0 := Lib.hid hf0
  have HRD := Lib.hid (And.intro (hb.grow hf0) hby)
  have HXB := Lib.hid hxb
  have HW0 := Lib.hid hw0
  have HWW := Lib.hid hW
  clear hM hb hby hxb hx0 hf0 hw0 hW
  go_enter Tryd.func36, Tryd.ntmps36
  go_upto_region 1 with fail
  rw [HW0.out, ← HXB.out]
  have c0 := HB.out.at 0 (v := .int .u8 s.kd) rfl
  go_wp2_with fail
  (with_reducible refine (HW.out _).mono ?_)
  rintro e wz ⟨rfl, hwz⟩
  rw [hwz]
  clear hwz
  by_cases hne : W = ⟨#[]⟩
  · have e1 : (W.toList == (⟨#[]⟩ : ByteArray).toList) = true := beq_is hne
    have e2 : (W.toList == []) = true := by rw [hne]; kernel_rfl
    have e3 : (W.toList != []) = false := by rw [hne]; kernel_rfl
    have HMY := Lib.hid (show M = false by rw [HM.out, may_is, decide_eq_false (fun q => q (by rw [wrd_ne, ← HWW.out, hne]))]; rfl)
    clear hne c0
    go_wp2_with fail
    refine region_grow (by kernel_rfl) (by kernel_rfl) [.is (.string W), .is (.bool false), .is (.bool false), .any, .any, .any, .any, .is (.bool false), .is (.bool false)] 19 rfl (by kernel_rfl) [(0, 11), (1, 12), (2, 13), (3, 14), (4, 15), (5, 16), (6, 17), (7, 18), (8, 2)] (by kernel_rfl) ?_ ?_
    · intro q a1 W1 i hi hnq hd hG K hK
      have hlt : i < 9 := hi
      have hc : i = 0 ∨ i = 1 ∨ i = 2 ∨ i = 3 ∨ i = 4 ∨ i = 5 ∨ i = 6 ∨ i = 7 ∨ i = 8 := by omega
      rcases hc with rfl | rfl | rfl | rfl | rfl | rfl | rfl | rfl | rfl
      · have e3 := hG.old 3 (by kernel_rfl)
        refine op_do rfl (wanted_none rfl) hK (fun K' hK' => ?_)
        unfold Oper.wp
        go_simp
        exact hK' _ _ (Fr.refl _ _) rfl
      · have e11 := hG.val (v := .string W) 0 11 (hd _ rfl ⟨0, .data⟩ (by simp) rfl) rfl rfl
        refine op_do rfl (wanted_none rfl) hK (fun K' hK' => ?_)
        unfold Oper.wp
        go_simp
        exact hK' _ _ (Fr.refl _ _) rfl
      · have e12 := hG.val (v := .bool false) 1 12 (hd _ rfl ⟨1, .data⟩ (by simp) rfl) rfl rfl
        refine op_do rfl (wanted_none rfl) hK (fun K' hK' => ?_)
        unfold Oper.wp
        go_simp
        exact hK' _ _ (Fr.refl _ _) rfl
      · have e1 := hG.old 1 (by kernel_rfl)
        have eg := hG.val (v := .bool false) 2 13 (hd _ rfl ⟨2, .guard⟩ (by simp) rfl) rfl rfl
        exact op_skip rfl (by simp [Region.wanted, yielded, eg]) hK trivial
      · have e1 := hG.old 1 (by kernel_rfl)
        have eg := hG.val (v := .bool false) 2 13 (hd _ rfl ⟨2, .guard⟩ (by simp) rfl) rfl rfl
        exact op_skip rfl (by simp [Region.wanted, yielded, eg]) hK trivial
      · obtain ⟨u4, e15, -⟩ := hG.get 4 15 (hd _ rfl ⟨4, .data⟩ (by simp) rfl) rfl
        have eg := hG.val (v := .bool false) 2 13 (hd _ rfl ⟨2, .guard⟩ (by simp) rfl) rfl rfl
        exact op_skip rfl (by simp [Region.wanted, yielded, eg]) hK trivial
      · obtain ⟨u3, e14, -⟩ := hG.get 3 14 (hd _ rfl ⟨3, .data⟩ (by simp) rfl) rfl
        obtain ⟨u5, e16, -⟩ := hG.get 5 16 (hd _ rfl ⟨5, .data⟩ (by simp) rfl) rfl
        have eg := hG.val (v := .bool false) 2 13 (hd _ rfl ⟨2, .guard⟩ (by simp) rfl) rfl rfl
        exact op_skip rfl (by simp [Region.wanted, yielded, eg]) hK trivial
      · have e13 := hG.val (v := .bool false) 2 13 (hd _ rfl ⟨2, .data⟩ (by simp) rfl) rfl rfl
        obtain ⟨u6, e17, -⟩ := hG.get 6 17 (hd _ rfl ⟨6, .data⟩ (by simp) rfl) rfl
        refine op_do rfl (wanted_none rfl) hK (fun K' hK' => ?_)
        unfold Oper.wp
        go_simp
        exact hK' _ _ (Fr.refl _ _) rfl
      · have e18 := hG.val (v := .bool false) 7 18 (hd _ rfl ⟨7, .data⟩ (by simp) rfl) rfl rfl
        refine op_do rfl (wanted_none rfl) hK (fun K' hK' => ?_)
        unfold Oper.wp
        go_simp
        exact hK' _ _ (Fr.refl _ _) rfl
    · intro vs W1 f1 hv
      have r0 : vs 0 = .string W := hv 0 11 (by decide) rfl
      have r1 : vs 1 = .bool false := hv 1 12 (by decide) rfl
      have r2 : vs 2 = .bool false := hv 2 13 (by decide) rfl
      have r7 : vs 7 = .bool false := hv 7 18 (by decide) rfl
      have r8 : vs 8 = .bool false := hv 8 2 (by decide) rfl
      simp only [lay, List.foldl_cons, List.foldl_nil, r0, r1, r2, r7, r8]
      simp only [List.setIfInBounds_toArray, List.set_cons_zero, List.set_cons_succ]
      clear hv r0 r1 r2 r7 r8
      generalize vs 3 = x3 at *
      generalize vs 4 = x4 at *
      generalize vs 5 = x5 at *
      generalize vs 6 = x6 at *
      go_wp2
      go_ret
      refine ⟨by rw [HMY.out]; rfl, (HF0.out.trans f1 (by simp))⟩
  · have e1 : (W.toList == (⟨#[]⟩ : ByteArray).toList) = false := beq_not hne
    have e2 : (W.toList == []) = false := by rw [← e1]; rw [ByteArray.toList_eq (⟨#[]⟩ : ByteArray)]
    have e3 : (W.toList != []) = true := by rw [bne, e2]; rfl
    have HMY := Lib.hid (show M = decide (s = bareS s) by rw [HM.out, may_is, decide_eq_true (by intro q; rw [wrd_ne, ← HWW.out] at q; exact hne q), Bool.true_and])
    clear hne c0
    go_wp2_with fail
    refine region_grow (by kernel_rfl) (by kernel_rfl) [.is (.string W), .is (.bool true), .is (.bool true), .is (.agg #[.int .u8 s.kd, .int .i64 s.la, .int .i64 s.sl, .int .i64 s.pl, .slice bp bn bc]), .is (.agg #[.int .u8 s.kd, .int .i64 s.la, .int .i64 s.sl, .int .i64 s.pl, .slice bp bn bc]), .is ((bareS s).val (bareV s (.slice bp bn bc))), .is (.bool (decide (s = bareS s))), .is (.bool (decide (s = bareS s))), .is (.bool (decide (s = bareS s)))] 19 rfl (by kernel_rfl) [(0, 11), (1, 12), (2, 13), (3, 14), (4, 15), (5, 16), (6, 17), (7, 18), (8, 2)] (by kernel_rfl) ?_ ?_
    · intro q a1 W1 i hi hnq hd hG K hK
      have hlt : i < 9 := hi
      have hc : i = 0 ∨ i = 1 ∨ i = 2 ∨ i = 3 ∨ i = 4 ∨ i = 5 ∨ i = 6 ∨ i = 7 ∨ i = 8 := by omega
      rcases hc with rfl | rfl | rfl | rfl | rfl | rfl | rfl | rfl | rfl
      · have e3 := hG.old 3 (by kernel_rfl)
        refine op_do rfl (wanted_none rfl) hK (fun K' hK' => ?_)
        unfold Oper.wp
        go_simp
        exact hK' _ _ (Fr.refl _ _) rfl
      · have e11 := hG.val (v := .string W) 0 11 (hd _ rfl ⟨0, .data⟩ (by simp) rfl) rfl rfl
        refine op_do rfl (wanted_none rfl) hK (fun K' hK' => ?_)
        unfold Oper.wp
        go_simp
        exact hK' _ _ (Fr.refl _ _) rfl
      · have e12 := hG.val (v := .bool true) 1 12 (hd _ rfl ⟨1, .data⟩ (by simp) rfl) rfl rfl
        refine op_do rfl (wanted_none rfl) hK (fun K' hK' => ?_)
        unfold Oper.wp
        go_simp
        exact hK' _ _ (Fr.refl _ _) rfl
      · have e1 := hG.old 1 (by kernel_rfl)
        have eg := hG.val (v := .bool true) 2 13 (hd _ rfl ⟨2, .guard⟩ (by simp) rfl) rfl rfl
        have q5 := (hG.grown.blk HB.out (by simp)).st
        refine op_do rfl (by simp [Region.wanted, yielded, eg]) hK (fun K' hK' => ?_)
        unfold Oper.wp
        go_simp
        exact hK' _ _ (Fr.refl _ _) rfl
      · have e1 := hG.old 1 (by kernel_rfl)
        have eg := hG.val (v := .bool true) 2 13 (hd _ rfl ⟨2, .guard⟩ (by simp) rfl) rfl rfl
        have q5 := (hG.grown.blk HB.out (by simp)).st
        refine op_do rfl (by simp [Region.wanted, yielded, eg]) hK (fun K' hK' => ?_)
        unfold Oper.wp
        go_simp
        exact hK' _ _ (Fr.refl _ _) rfl
      · have e15 := hG.val (v := .agg #[.int .u8 s.kd, .int .i64 s.la, .int .i64 s.sl, .int .i64 s.pl, .slice bp bn bc]) 4 15 (hd _ rfl ⟨4, .data⟩ (by simp) rfl) rfl rfl
        have eg := hG.val (v := .bool true) 2 13 (hd _ rfl ⟨2, .guard⟩ (by simp) rfl) rfl rfl
        refine op_do rfl (by simp [Region.wanted, yielded, eg]) hK (fun K' hK' => ?_)
        unfold Oper.wp
        go_simp
        refine (bare_any W1 s bp bn bc).mono ?_
        rintro e W2 ⟨rfl, hf⟩
        exact hK' _ _ hf rfl
      · have e14 := hG.val (v := .agg #[.int .u8 s.kd, .int .i64 s.la, .int .i64 s.sl, .int .i64 s.pl, .slice bp bn bc]) 3 14 (hd _ rfl ⟨3, .data⟩ (by simp) rfl) rfl rfl
        have e16 := hG.val (v := (bareS s).val (bareV s (.slice bp bn bc))) 5 16 (hd _ rfl ⟨5, .data⟩ (by simp) rfl) rfl rfl
        have eg := hG.val (v := .bool true) 2 13 (hd _ rfl ⟨2, .guard⟩ (by simp) rfl) rfl rfl
        refine op_do rfl (by simp [Region.wanted, yielded, eg]) hK (fun K' hK' => ?_)
        unfold Oper.wp
        go_simp
        refine (same_step_any W1 s (bareS s) (.slice bp bn bc) (bareV s (.slice bp bn bc)) (HRD.out.1.grow hG.grown) (bare_rd (HRD.out.1.grow hG.grown)) HRD.out.2 (bare_byt HRD.out.2)).mono ?_
        rintro e W2 ⟨rfl, hf⟩
        exact hK' _ _ hf rfl
      · have e13 := hG.val (v := .bool true) 2 13 (hd _ rfl ⟨2, .data⟩ (by simp) rfl) rfl rfl
        have e17 := hG.val (v := .bool (decide (s = bareS s))) 6 17 (hd _ rfl ⟨6, .data⟩ (by simp) rfl) rfl rfl
        refine op_do rfl (wanted_none rfl) hK (fun K' hK' => ?_)
        unfold Oper.wp
        go_simp
        exact hK' _ _ (Fr.refl _ _) rfl
      · have e18 := hG.val (v := .bool (decide (s = bareS s))) 7 18 (hd _ rfl ⟨7, .data⟩ (by simp) rfl) rfl rfl
        refine op_do rfl (wanted_none rfl) hK (fun K' hK' => ?_)
        unfold Oper.wp
        go_simp
        exact hK' _ _ (Fr.refl _ _) rfl
    · intro vs W1 f1 hv
      have r0 : vs 0 = .string W := hv 0 11 (by decide) rfl
      have r1 : vs 1 = .bool true := hv 1 12 (by decide) rfl
      have r2 : vs 2 = .bool true := hv 2 13 (by decide) rfl
      have r3 : vs 3 = .agg #[.int .u8 s.kd, .int .i64 s.la, .int .i64 s.sl, .int .i64 s.pl, .slice bp bn bc] := hv 3 14 (by decide) rfl
      have r4 : vs 4 = .agg #[.int .u8 s.kd, .int .i64 s.la, .int .i64 s.sl, .int .i64 s.pl, .slice bp bn bc] := hv 4 15 (by decide) rfl
      have r5 : vs 5 = (bareS s).val (bareV s (.slice bp bn bc)) := hv 5 16 (by decide) rfl
      have r6 : vs 6 = .bool (decide (s = bareS s)) := hv 6 17 (by decide) rfl
      have r7 : vs 7 = .bool (decide (s = bareS s)) := hv 7 18 (by decide) rfl
      have r8 : vs 8 = .bool (decide (s = bareS s)) := hv 8 2 (by decide) rfl
      simp only [lay, List.foldl_cons, List.foldl_nil, r0, r1, r2, r3, r4, r5, r6, r7, r8]
      simp only [List.setIfInBounds_toArray, List.set_cons_zero, List.set_cons_succ]
      clear hv r0 r1 r2 r3 r4 r5 r6 r7 r8
      go_wp2
      go_ret
      refine ⟨by rw [HMY.out]; rfl, (HF0.out.trans f1 (by simp))⟩
end Sc
end Go.Proofs.YtbpgpjibljgiiaaDoor
