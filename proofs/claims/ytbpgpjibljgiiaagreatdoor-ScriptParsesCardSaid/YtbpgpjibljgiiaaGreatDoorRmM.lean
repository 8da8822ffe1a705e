/-
  Script, the document: whether a step may be. Printed by genMy.py.
  Script, the document: bytes as a text. Printed by genRb.py.
  Script, plain: how the document reads a step's line is how the program reads it.
-/
import Derived.Test.YtbpgpjibljgiiaaGreatDoorRqM
namespace Go.Proofs.YtbpgpjibljgiiaaGreatDoor
open Go.RowKit
set_option linter.unusedVariables false
set_option linter.unusedSimpArgs false
attribute [local go_sem] Oper.semAt_some
theorem results_st1 {fn : Func} {p : Tmp} (h : fn.results = #[.cell p 64]) (tmps : Array Value) (w : World) (g : Nat) (v : Value) (hp : tmps.getD p undef = .pointer (some ⟨g, 0, none⟩)) (hv : st? w g = some v) :
    (results fn tmps).run Tryz.prog w = .ok v w := by
  have hp' : tmps[p]?.getD undef = .pointer (some ⟨g, 0, none⟩) := by simpa using hp
  simp [results, h, hp', asAddr, loadVar_st w g v hv, Result.andThen]
namespace Sc
/-- A kind's word, the letters of its fields. -/
def wrdB : Nat → ByteArray × ByteArray
  | 1 => (⟨#[99, 111, 109, 109, 97, 110, 100]⟩, ⟨#[66]⟩)
  | 2 => (⟨#[108, 97, 110, 101]⟩, ⟨#[78]⟩)
  | 3 => (⟨#[116, 117, 114, 110]⟩, ⟨#[]⟩)
  | 4 => (⟨#[116, 105, 99, 107]⟩, ⟨#[]⟩)
  | 5 => (⟨#[100, 111, 119, 110]⟩, ⟨#[78, 78]⟩)
  | 6 => (⟨#[117, 112]⟩, ⟨#[78, 78]⟩)
  | 7 => (⟨#[108, 111, 115, 101, 32, 100, 111, 119, 110]⟩, ⟨#[78, 78]⟩)
  | 8 => (⟨#[108, 111, 115, 101, 32, 117, 112]⟩, ⟨#[78, 78]⟩)
  | 9 => (⟨#[116, 119, 105, 99, 101, 32, 100, 111, 119, 110]⟩, ⟨#[78, 78]⟩)
  | 10 => (⟨#[116, 119, 105, 99, 101, 32, 117, 112]⟩, ⟨#[78, 78]⟩)
  | _ => (⟨#[]⟩, ⟨#[]⟩)
set_option maxRecDepth 100000 in
theorem word_any (w : World) (k : Nat) : Calls Tryz.prog 41 #[.int .u8 k] w fun e w' => e = .returned (.tuple #[.string (wrdB k).1, .string (wrdB k).2]) ∧ w' = w := by
  by_cases h : 1 ≤ k ∧ k ≤ 10
  · have hc : k = 1 ∨ k = 2 ∨ k = 3 ∨ k = 4 ∨ k = 5 ∨ k = 6 ∨ k = 7 ∨ k = 8 ∨ k = 9 ∨ k = 10 := by omega
    rcases hc with rfl | rfl | rfl | rfl | rfl | rfl | rfl | rfl | rfl | rfl
    all_goals
      clear h
      go_enter Tryz.func41, Tryz.ntmps41
      go_wp2
      go_ret2
      exact ⟨rfl, rfl⟩
  · have e : wrdB k = (⟨#[]⟩, ⟨#[]⟩) := by
      unfold wrdB
      split <;> first | omega | rfl
    rw [e]
    have k1 : ((k : Int) == 1) = false := by rw [beq_eq_false_iff_ne]; omega
    have k2 : ((k : Int) == 2) = false := by rw [beq_eq_false_iff_ne]; omega
    have k3 : ((k : Int) == 3) = false := by rw [beq_eq_false_iff_ne]; omega
    have k4 : ((k : Int) == 4) = false := by rw [beq_eq_false_iff_ne]; omega
    have k5 : ((k : Int) == 5) = false := by rw [beq_eq_false_iff_ne]; omega
    have k6 : ((k : Int) == 6) = false := by rw [beq_eq_false_iff_ne]; omega
    have k7 : ((k : Int) == 7) = false := by rw [beq_eq_false_iff_ne]; omega
    have k8 : ((k : Int) == 8) = false := by rw [beq_eq_false_iff_ne]; omega
    have k9 : ((k : Int) == 9) = false := by rw [beq_eq_false_iff_ne]; omega
    have k10 : ((k : Int) == 10) = false := by rw [beq_eq_false_iff_ne]; omega
    clear h e
    go_enter Tryz.func41, Tryz.ntmps41
    go_wp2
    go_ret2
    exact ⟨rfl, rfl⟩
/-- Numbers of bytes. -/
def Byt (l : List Int) : Prop := ∀ z ∈ l, 0 ≤ z ∧ z < 256
theorem strOfNums_inj : ∀ {a b : List Int}, Byt a → Byt b → strOfNums a = strOfNums b → a = b := by
  intro a b ha hb h
  have h2 : a.map (fun n => UInt8.ofNat n.toNat) = b.map (fun n => UInt8.ofNat n.toNat) := by
    have := congrArg (fun x : ByteArray => x.data.toList) h
    simpa [strOfNums] using this
  clear h
  induction a generalizing b with
  | nil =>
    cases b with
    | nil => rfl
    | cons y b => simp at h2
  | cons x a ih =>
    cases b with
    | nil => simp at h2
    | cons y b =>
      simp only [List.map_cons, List.cons.injEq] at h2
      have hx := ha x (by simp)
      have hy := hb y (by simp)
      have h3 := congrArg UInt8.toNat h2.1
      rw [UInt8.toNat_ofNat', UInt8.toNat_ofNat'] at h3
      rw [show x = y by omega, ih (fun z hz => ha z (by simp [hz])) (fun z hz => hb z (by simp [hz])) h2.2]
theorem St.ne {a b : St} (h : a.kd ≠ b.kd ∨ a.la ≠ b.la ∨ a.sl ≠ b.sl ∨ a.pl ≠ b.pl ∨ a.by' ≠ b.by') : decide (a = b) = false := by
  refine decide_eq_false fun e => ?_
  subst e
  rcases h with h | h | h | h | h <;> exact h rfl
theorem St.eq {a b : St} (h1 : a.kd = b.kd) (h2 : a.la = b.la) (h3 : a.sl = b.sl) (h4 : a.pl = b.pl) (h5 : a.by' = b.by') : decide (a = b) = true := by
  refine decide_eq_true ?_
  cases a; cases b
  simp at h1 h2 h3 h4 h5
  subst h1; subst h2; subst h3; subst h4; subst h5
  rfl
set_option maxRecDepth 100000 in
set_option maxHeartbeats 4000000 in
theorem same_step_any (w : World) (a b : St) (va vb : Value) (ha : Rd w va (u8s a.by')) (hb : Rd w vb (u8s b.by')) (hba : Byt a.by') (hbb : Byt b.by') :
    Calls Tryz.prog 22 #[a.val va, b.val vb] w fun e w' => e = .returned (.bool (decide (a = b))) ∧ Fr [] w w' := by
  have f0 : Fr [] w ((w.alloc (.cells #[.int .u8 a.kd, .int .i64 a.la, .int .i64 a.sl, .int .i64 a.pl, va] 64)).alloc (.cells #[.int .u8 b.kd, .int .i64 b.la, .int .i64 b.sl, .int .i64 b.pl, vb] 64)) := ((Fr.refl [] w).alloc _).alloc _
  have cva := conv_rd _ va _ (ha.grow f0)
  have cvb := conv_rd _ vb _ (hb.grow f0)
  have HF := Lib.hid f0
  have HI := Lib.hid (fun h => strOfNums_inj (a := a.by') (b := b.by') hba hbb h)
  obtain ⟨ra, hra⟩ : ∃ x, x = decide (a = b) := ⟨_, rfl⟩
  have HRA := Lib.hid hra
  rw [← hra]
  obtain ⟨ta, hta⟩ : ∃ x, x = strOfNums a.by' := ⟨_, rfl⟩
  obtain ⟨tb, htb⟩ : ∃ x, x = strOfNums b.by' := ⟨_, rfl⟩
  rw [← hta] at cva
  rw [← htb] at cvb
  have HTT := Lib.hid (And.intro hta htb)
  show Calls Tryz.prog 22 #[.agg #[.int .u8 a.kd, .int .i64 a.la, .int .i64 a.sl, .int .i64 a.pl, va], .agg #[.int .u8 b.kd, .int .i64 b.la, .int .i64 b.sl, .int .i64 b.pl, vb]] w _
  clear ha hb hba hbb f0 hra hta htb
  by_cases h1 : a.kd = b.kd
  · have d1 : ((a.kd : Int) == (b.kd : Int)) = true := by rw [beq_iff_eq]; omega
    by_cases h2 : a.la = b.la
    · have d2 : (a.la == b.la) = true := by rw [beq_iff_eq]; exact h2
      by_cases h3 : a.sl = b.sl
      · have d3 : (a.sl == b.sl) = true := by rw [beq_iff_eq]; exact h3
        by_cases h4 : a.pl = b.pl
        · have d4 : (a.pl == b.pl) = true := by rw [beq_iff_eq]; exact h4
          by_cases h5 : a.by' = b.by'
          · obtain rfl : ra = true := by rw [HRA.out]; exact St.eq h1 h2 h3 h4 h5
            have d5 : (ta.toList == tb.toList) = true := by rw [HTT.out.1, HTT.out.2, h5]; exact beq_self_eq_true _
            clear h1 h2 h3 h4 h5
            go_enter Tryz.func22, Tryz.ntmps22
            go_wp2
            go_ret
            exact ⟨rfl, HF.out⟩
          · obtain rfl : ra = false := by rw [HRA.out]; exact St.ne (.inr (.inr (.inr (.inr h5))))
            have d5 : (ta.toList == tb.toList) = false := by rw [HTT.out.1, HTT.out.2]; exact beq_not (fun e => h5 (HI.out e))
            clear h1 h2 h3 h4 h5
            go_enter Tryz.func22, Tryz.ntmps22
            go_wp2
            go_ret
            exact ⟨rfl, HF.out⟩
        · obtain rfl : ra = false := by rw [HRA.out]; exact St.ne (.inr (.inr (.inr (.inl h4))))
          have d4 : (a.pl == b.pl) = false := by rw [beq_eq_false_iff_ne]; exact h4
          clear h1 h2 h3 h4
          go_enter Tryz.func22, Tryz.ntmps22
          go_wp2
          go_ret
          exact ⟨rfl, HF.out⟩
      · obtain rfl : ra = false := by rw [HRA.out]; exact St.ne (.inr (.inr (.inl h3)))
        have d3 : (a.sl == b.sl) = false := by rw [beq_eq_false_iff_ne]; exact h3
        clear h1 h2 h3
        go_enter Tryz.func22, Tryz.ntmps22
        go_wp2
        go_ret
        exact ⟨rfl, HF.out⟩
    · obtain rfl : ra = false := by rw [HRA.out]; exact St.ne (.inr (.inl h2))
      have d2 : (a.la == b.la) = false := by rw [beq_eq_false_iff_ne]; exact h2
      clear h1 h2
      go_enter Tryz.func22, Tryz.ntmps22
      go_wp2
      go_ret
      exact ⟨rfl, HF.out⟩
  · obtain rfl : ra = false := by rw [HRA.out]; exact St.ne (.inl h1)
    have d1 : ((a.kd : Int) == (b.kd : Int)) = false := by rw [beq_eq_false_iff_ne]; omega
    clear h1
    go_enter Tryz.func22, Tryz.ntmps22
    go_wp2
    go_ret
    exact ⟨rfl, HF.out⟩
/-- A step with the fields of its kind alone. -/
def bareS (s : St) : St := if (wrdB s.kd).2 = ⟨#[66]⟩ then ⟨s.kd, 0, 0, 0, s.by'⟩ else if (wrdB s.kd).2 = ⟨#[78]⟩ then ⟨s.kd, s.la, 0, 0, []⟩ else if (wrdB s.kd).2 = ⟨#[78, 78]⟩ then ⟨s.kd, 0, s.sl, s.pl, []⟩ else ⟨s.kd, 0, 0, 0, []⟩
def bareV (s : St) (bv : Value) : Value := if (wrdB s.kd).2 = ⟨#[66]⟩ then bv else .slice none 0 0
theorem nilRd (W : World) : Rd W (.slice none 0 0) (u8s []) := ⟨none, 0, rfl, Nat.le_refl _, .inl rfl⟩
theorem bare_rd {W : World} {s : St} {bv : Value} (h : Rd W bv (u8s s.by')) : Rd W (bareV s bv) (u8s (bareS s).by') := by
  unfold bareV bareS
  split
  · exact h
  · split
    · exact nilRd W
    · split <;> exact nilRd W
theorem bare_byt {s : St} (h : Byt s.by') : Byt (bareS s).by' := by
  unfold bareS
  split
  · exact h
  · split
    · intro z hz; cases hz
    · split <;> (intro z hz; cases hz)
set_option maxRecDepth 100000 in
set_option maxHeartbeats 4000000 in
theorem bare_any (w : World) (s : St) (bp : Option Addr) (bn bc : Nat) :
    Calls Tryz.prog 68 #[s.val (.slice bp bn bc)] w fun e w' => e = .returned ((bareS s).val (bareV s (.slice bp bn bc))) ∧ Fr [] w w' := by
  obtain ⟨R, hR⟩ : ∃ R, R = (bareS s).val (bareV s (.slice bp bn bc)) := ⟨_, rfl⟩
  rw [← hR]
  have HR := Lib.hid hR
  obtain ⟨L, hL⟩ : ∃ L, L = (wrdB s.kd).2 := ⟨_, rfl⟩
  have HW := Lib.hid (fun W => show Calls Tryz.prog 41 #[.int .u8 s.kd] W fun e w' => e = .returned (.tuple #[.string (wrdB s.kd).1, .string L]) ∧ w' = W from by rw [hL]; exact word_any W s.kd)
  have HL := Lib.hid hL
  show Calls Tryz.prog 68 #[.agg #[.int .u8 s.kd, .int .i64 s.la, .int .i64 s.sl, .int .i64 s.pl, .slice bp bn bc]] w _
  generalize (wrdB s.kd).1 = X at HW
  obtain ⟨w0, hw0⟩ : ∃ w0, (w.alloc (.cells #[.int .u8 s.kd, .int .i64 s.la, .int .i64 s.sl, .int .i64 s.pl, .slice bp bn bc] 64)).alloc (.cells #[.int .u8 0, .int .i64 0, .int .i64 0, .int .i64 0, .slice none 0 0] 64) = w0 := ⟨_, rfl⟩
  obtain ⟨xb, hxb⟩ : ∃ xb, xb = w.heap.size := ⟨_, rfl⟩
  obtain ⟨rb, hrb⟩ : ∃ rb, rb = (w.alloc (.cells #[.int .u8 s.kd, .int .i64 s.la, .int .i64 s.sl, .int .i64 s.pl, .slice bp bn bc] 64)).heap.size := ⟨_, rfl⟩
  have hx0 : Blk w0 xb #[.int .u8 s.kd, .int .i64 s.la, .int .i64 s.sl, .int .i64 s.pl, .slice bp bn bc] 64 := by rw [← hw0]; exact (Blk.new_at hxb _ _).alloc _
  have hr0 : Blk w0 rb #[.int .u8 0, .int .i64 0, .int .i64 0, .int .i64 0, .slice none 0 0] 64 := by rw [← hw0]; exact Blk.new_at hrb _ _
  have hf0 : Fr [] w w0 := by rw [← hw0]; exact ((Fr.refl [] w).alloc _).alloc _
  have hrb2 : rb = xb + 1 := by rw [hrb, hxb]; simp
  have H0 := Lib.hid (And.intro hx0 (And.intro hr0 (And.intro hf0 (And.intro hrb2 hxb))))
  have HW0 := Lib.hid hw0
  clear hR hL hw0 hxb hrb hx0 hr0 hf0 hrb2
  go_enter Tryz.func68, Tryz.ntmps68
  go_upto_region 1 with fail
  rw [HW0.out, ← H0.out.2.2.2.2, ← H0.out.2.2.2.1]
  have c0 := H0.out.1.at 0 (v := .int .u8 s.kd) rfl
  go_wp2_with fail
  (with_reducible refine (HW.out _).mono ?_)
  rintro e wz ⟨rfl, hwz⟩
  rw [hwz]
  clear hwz
  have q4 : can5 (w0.alloc (.cells #[.int .u8 0, .int .i64 0, .int .i64 0, .int .i64 0, .slice none 0 0] 64)) w0.heap.size = true := (Blk.new w0 _ 64).can5
  have o1 : (Value.int .u8 s.kd).oneCell' = true := rfl
  have o2 : ∀ z : Int, (Value.int .i64 z).oneCell' = true := fun _ => rfl
  have o3 : (Value.slice none 0 0).oneCell' = true := rfl
  obtain ⟨w1, hw1⟩ : ∃ w1, layS (w0.alloc (.cells #[.int .u8 0, .int .i64 0, .int .i64 0, .int .i64 0, .slice none 0 0] 64)) w0.heap.size (.int .u8 s.kd) (.int .i64 0) (.int .i64 0) (.int .i64 0) (.slice none 0 0) = w1 := ⟨_, rfl⟩
  obtain ⟨ob, hob⟩ : ∃ ob, ob = w0.heap.size := ⟨_, rfl⟩
  have ho1 : Blk w1 ob #[.int .u8 s.kd, .int .i64 0, .int .i64 0, .int .i64 0, .slice none 0 0] 64 := by rw [← hw1, hob]; exact (Blk.new w0 _ 64).lay _ _ _ _ _
  have hf1 : Fr [] w0 w1 := by rw [← hw1]; exact ((Fr.refl [] w0).alloc _).lay _ _ _ _ _ _ (.inr (Nat.le_refl _))
  have H1 := Lib.hid (show Blk w1 ob _ 64 ∧ Blk w1 xb _ 64 ∧ Blk w1 rb _ 64 ∧ Fr [] w w1 ∧ xb < ob ∧ rb < ob ∧ rb ≠ xb ∧ w.heap.size ≤ ob from ⟨ho1, hf1.blk H0.out.1 (by simp), hf1.blk H0.out.2.1 (by simp), H0.out.2.2.1.trans hf1 (by simp), by rw [hob]; exact H0.out.1.lt, by rw [hob]; exact H0.out.2.1.lt, by have := H0.out.2.2.2.1; omega, by rw [hob]; exact H0.out.2.2.1.size⟩)
  have HW1 := Lib.hid hw1
  have HOB := Lib.hid hob
  clear hw1 ho1 hf1 hob
  go_upto_region 3 with fail
  rw [HW1.out, ← HOB.out]
  clear q4 c0
  have x1 := H1.out.2.1.at 1 (v := .int .i64 s.la) rfl
  have x2 := H1.out.2.1.at 2 (v := .int .i64 s.sl) rfl
  have x3 := H1.out.2.1.at 3 (v := .int .i64 s.pl) rfl
  have x4 := H1.out.2.1.at 4 (v := .slice bp bn bc) rfl
  have y1 := H1.out.1.at 1 (v := .int .i64 0) rfl
  have y2 := H1.out.1.at 2 (v := .int .i64 0) rfl
  have y3 := H1.out.1.at 3 (v := .int .i64 0) rfl
  have y4 := H1.out.1.at 4 (v := .slice none 0 0) rfl
  have g1 := H1.out.1.free 1
  have g2 := H1.out.1.free 2
  have g3 := H1.out.1.free 3
  have g4 := H1.out.1.free 4
  by_cases h66 : L = ⟨#[66]⟩
  · have e66 : (L.toList == [66]) = true := by rw [show ([66] : List UInt8) = (⟨#[66]⟩ : ByteArray).toList by kernel_rfl]; exact beq_is h66
    have HLL := Lib.hid h66
    clear h66
    obtain ⟨w2, hw2⟩ : ∃ w2, (w1.setCell ⟨ob, 4, none⟩ (.slice bp bn bc)) = w2 := ⟨_, rfl⟩
    have ho2 : Blk w2 ob #[.int .u8 s.kd, .int .i64 0, .int .i64 0, .int .i64 0, .slice bp bn bc] 64 := by rw [← hw2]; exact (H1.out.1.set 4 _)
    have hf2 : Fr [ob] w1 w2 := by rw [← hw2]; exact ((Fr.refl [ob] w1).setCell _ _ (.inl (by simp)))
    have hr2 := hf2.blk H1.out.2.2.1 (by have := H1.out.2.2.2.2.2.1; simp; omega)
    have q5 := ho2.st
    have q4 : can5 w2 rb = true := hr2.can5
    have H2 := Lib.hid (And.intro hr2 hf2)
    have HW2 := Lib.hid hw2
    have o5 : (Value.slice bp bn bc).oneCell' = true := rfl
    clear hw2 ho2 hf2 hr2
    go_upto_region 11 with fail
    rw [HW2.out]
    clear x1 x2 x3 x4 y1 y2 y3 y4 g1 g2 g3 g4
    go_wp2_with fail
    have hl : Fr [rb] w2 (layS w2 rb (.int .u8 s.kd) (.int .i64 0) (.int .i64 0) (.int .i64 0) (.slice bp bn bc)) := (Fr.refl _ _).lay _ _ _ _ _ _ (.inl (by simp))
    refine bodyPost_ret (v := .agg #[.int .u8 s.kd, .int .i64 0, .int .i64 0, .int .i64 0, .slice bp bn bc]) ?_ rfl ⟨?_, ?_⟩
    · exact results_st1 rfl _ _ rb _ rfl (H2.out.1.lay _ _ _ _ _).st
    · rw [HR.out]
      unfold bareS bareV St.val
      rw [← HL.out]
      rw [HLL.out]
      rfl
    · exact (H1.out.2.2.2.1.trans H2.out.2 (fun x hx => .inr (by have := H1.out.2.2.2.2.2.2.2; simp at hx; omega))).trans hl (fun x hx => .inr (by have := H0.out.2.2.2.1; have := H0.out.2.2.2.2; simp at hx; omega))
  · have e66 : (L.toList == [66]) = false := by rw [show ([66] : List UInt8) = (⟨#[66]⟩ : ByteArray).toList by kernel_rfl]; exact beq_not h66
    by_cases h78 : L = ⟨#[78]⟩
    · have e78 : (L.toList == [78]) = true := by rw [show ([78] : List UInt8) = (⟨#[78]⟩ : ByteArray).toList by kernel_rfl]; exact beq_is h78
      have HLL := Lib.hid h78
      clear h66 h78
      obtain ⟨w2, hw2⟩ : ∃ w2, (w1.setCell ⟨ob, 1, none⟩ (.int .i64 s.la)) = w2 := ⟨_, rfl⟩
      have ho2 : Blk w2 ob #[.int .u8 s.kd, .int .i64 s.la, .int .i64 0, .int .i64 0, .slice none 0 0] 64 := by rw [← hw2]; exact (H1.out.1.set 1 _)
      have hf2 : Fr [ob] w1 w2 := by rw [← hw2]; exact ((Fr.refl [ob] w1).setCell _ _ (.inl (by simp)))
      have hr2 := hf2.blk H1.out.2.2.1 (by have := H1.out.2.2.2.2.2.1; simp; omega)
      have q5 := ho2.st
      have q4 : can5 w2 rb = true := hr2.can5
      have H2 := Lib.hid (And.intro hr2 hf2)
      have HW2 := Lib.hid hw2
      have o5 : (Value.slice bp bn bc).oneCell' = true := rfl
      clear hw2 ho2 hf2 hr2
      go_upto_region 11 with fail
      rw [HW2.out]
      clear x1 x2 x3 x4 y1 y2 y3 y4 g1 g2 g3 g4
      go_wp2_with fail
      have hl : Fr [rb] w2 (layS w2 rb (.int .u8 s.kd) (.int .i64 s.la) (.int .i64 0) (.int .i64 0) (.slice none 0 0)) := (Fr.refl _ _).lay _ _ _ _ _ _ (.inl (by simp))
      refine bodyPost_ret (v := .agg #[.int .u8 s.kd, .int .i64 s.la, .int .i64 0, .int .i64 0, .slice none 0 0]) ?_ rfl ⟨?_, ?_⟩
      · exact results_st1 rfl _ _ rb _ rfl (H2.out.1.lay _ _ _ _ _).st
      · rw [HR.out]
        unfold bareS bareV St.val
        rw [← HL.out]
        rw [HLL.out]
        rfl
      · exact (H1.out.2.2.2.1.trans H2.out.2 (fun x hx => .inr (by have := H1.out.2.2.2.2.2.2.2; simp at hx; omega))).trans hl (fun x hx => .inr (by have := H0.out.2.2.2.1; have := H0.out.2.2.2.2; simp at hx; omega))
    · have e78 : (L.toList == [78]) = false := by rw [show ([78] : List UInt8) = (⟨#[78]⟩ : ByteArray).toList by kernel_rfl]; exact beq_not h78
      by_cases h7878 : L = ⟨#[78, 78]⟩
      · have e7878 : (L.toList == [78, 78]) = true := by rw [show ([78, 78] : List UInt8) = (⟨#[78, 78]⟩ : ByteArray).toList by kernel_rfl]; exact beq_is h7878
        have HLL := Lib.hid h7878
        clear h66 h78 h7878
        obtain ⟨w2, hw2⟩ : ∃ w2, ((w1.setCell ⟨ob, 2, none⟩ (.int .i64 s.sl)).setCell ⟨ob, 3, none⟩ (.int .i64 s.pl)) = w2 := ⟨_, rfl⟩
        have ho2 : Blk w2 ob #[.int .u8 s.kd, .int .i64 0, .int .i64 s.sl, .int .i64 s.pl, .slice none 0 0] 64 := by rw [← hw2]; exact ((H1.out.1.set 2 _).set 3 _)
        have hf2 : Fr [ob] w1 w2 := by rw [← hw2]; exact (((Fr.refl [ob] w1).setCell _ _ (.inl (by simp))).setCell _ _ (.inl (by simp)))
        have hr2 := hf2.blk H1.out.2.2.1 (by have := H1.out.2.2.2.2.2.1; simp; omega)
        have q5 := ho2.st
        have q4 : can5 w2 rb = true := hr2.can5
        have H2 := Lib.hid (And.intro hr2 hf2)
        have HW2 := Lib.hid hw2
        have o5 : (Value.slice bp bn bc).oneCell' = true := rfl
        clear hw2 ho2 hf2 hr2
        go_upto_region 11 with fail
        rw [HW2.out]
        clear x1 x2 x3 x4 y1 y2 y3 y4 g1 g2 g3 g4
        go_wp2_with fail
        have hl : Fr [rb] w2 (layS w2 rb (.int .u8 s.kd) (.int .i64 0) (.int .i64 s.sl) (.int .i64 s.pl) (.slice none 0 0)) := (Fr.refl _ _).lay _ _ _ _ _ _ (.inl (by simp))
        refine bodyPost_ret (v := .agg #[.int .u8 s.kd, .int .i64 0, .int .i64 s.sl, .int .i64 s.pl, .slice none 0 0]) ?_ rfl ⟨?_, ?_⟩
        · exact results_st1 rfl _ _ rb _ rfl (H2.out.1.lay _ _ _ _ _).st
        · rw [HR.out]
          unfold bareS bareV St.val
          rw [← HL.out]
          rw [HLL.out]
          rfl
        · exact (H1.out.2.2.2.1.trans H2.out.2 (fun x hx => .inr (by have := H1.out.2.2.2.2.2.2.2; simp at hx; omega))).trans hl (fun x hx => .inr (by have := H0.out.2.2.2.1; have := H0.out.2.2.2.2; simp at hx; omega))
      · have e7878 : (L.toList == [78, 78]) = false := by rw [show ([78, 78] : List UInt8) = (⟨#[78, 78]⟩ : ByteArray).toList by kernel_rfl]; exact beq_not h7878
        have HLL := Lib.hid (And.intro h66 (And.intro h78 h7878))
        clear h66 h78 h7878
        obtain ⟨w2, hw2⟩ : ∃ w2, w1 = w2 := ⟨_, rfl⟩
        have ho2 : Blk w2 ob #[.int .u8 s.kd, .int .i64 0, .int .i64 0, .int .i64 0, .slice none 0 0] 64 := by rw [← hw2]; exact H1.out.1
        have hf2 : Fr [ob] w1 w2 := by rw [← hw2]; exact (Fr.refl [ob] w1)
        have hr2 := hf2.blk H1.out.2.2.1 (by have := H1.out.2.2.2.2.2.1; simp; omega)
        have q5 := ho2.st
        have q4 : can5 w2 rb = true := hr2.can5
        have H2 := Lib.hid (And.intro hr2 hf2)
        have HW2 := Lib.hid hw2
        have o5 : (Value.slice bp bn bc).oneCell' = true := rfl
        clear hw2 ho2 hf2 hr2
        go_upto_region 11 with fail
        rw [HW2.out]
        clear x1 x2 x3 x4 y1 y2 y3 y4 g1 g2 g3 g4
        go_wp2_with fail
        have hl : Fr [rb] w2 (layS w2 rb (.int .u8 s.kd) (.int .i64 0) (.int .i64 0) (.int .i64 0) (.slice none 0 0)) := (Fr.refl _ _).lay _ _ _ _ _ _ (.inl (by simp))
        refine bodyPost_ret (v := .agg #[.int .u8 s.kd, .int .i64 0, .int .i64 0, .int .i64 0, .slice none 0 0]) ?_ rfl ⟨?_, ?_⟩
        · exact results_st1 rfl _ _ rb _ rfl (H2.out.1.lay _ _ _ _ _).st
        · rw [HR.out]
          unfold bareS bareV St.val
          rw [← HL.out]
          rw [if_neg HLL.out.1, if_neg HLL.out.2.1, if_neg HLL.out.2.2, if_neg HLL.out.1]
        · exact (H1.out.2.2.2.1.trans H2.out.2 (fun x hx => .inr (by have := H1.out.2.2.2.2.2.2.2; simp at hx; omega))).trans hl (fun x hx => .inr (by have := H0.out.2.2.2.1; have := H0.out.2.2.2.2; simp at hx; omega))
theorem may_is (s : St) : mayS s = (decide (wordsL s.kd ≠ []) && decide (s = bareS s)) := by
  obtain ⟨kd, la, sl, pl, bl⟩ := s
  by_cases h : 1 ≤ kd ∧ kd ≤ 10
  · have hc : kd = 1 ∨ kd = 2 ∨ kd = 3 ∨ kd = 4 ∨ kd = 5 ∨ kd = 6 ∨ kd = 7 ∨ kd = 8 ∨ kd = 9 ∨ kd = 10 := by omega
    rw [decide_eq_true (wordsL_ne h), Bool.true_and]
    rcases hc with rfl | rfl | rfl | rfl | rfl | rfl | rfl | rfl | rfl | rfl
    · show (decide (la = 0) && decide (sl = 0) && decide (pl = 0)) = decide (_ = (⟨1, 0, 0, 0, bl⟩ : St))
      simp [Bool.decide_and, Bool.and_assoc]
    · show (decide (bl.length = 0) && decide (sl = 0) && decide (pl = 0)) = decide (_ = (⟨2, la, 0, 0, []⟩ : St))
      rw [Bool.eq_iff_iff]
      simp [List.length_eq_zero_iff]
      constructor
      · rintro ⟨⟨h1, h2⟩, h3⟩; exact ⟨h2, h3, h1⟩
      · rintro ⟨h1, h2, h3⟩; exact ⟨⟨h3, h1⟩, h2⟩
    · show (decide (bl.length = 0) && decide (la = 0) && decide (sl = 0) && decide (pl = 0)) = decide (_ = (⟨3, 0, 0, 0, []⟩ : St))
      rw [Bool.eq_iff_iff]
      simp [List.length_eq_zero_iff]
      constructor
      · rintro ⟨⟨⟨h1, h2⟩, h3⟩, h4⟩; exact ⟨h2, h3, h4, h1⟩
      · rintro ⟨h1, h2, h3, h4⟩; exact ⟨⟨⟨h4, h1⟩, h2⟩, h3⟩
    · show (decide (bl.length = 0) && decide (la = 0) && decide (sl = 0) && decide (pl = 0)) = decide (_ = (⟨4, 0, 0, 0, []⟩ : St))
      rw [Bool.eq_iff_iff]
      simp [List.length_eq_zero_iff]
      constructor
      · rintro ⟨⟨⟨h1, h2⟩, h3⟩, h4⟩; exact ⟨h2, h3, h4, h1⟩
      · rintro ⟨h1, h2, h3, h4⟩; exact ⟨⟨⟨h4, h1⟩, h2⟩, h3⟩
    all_goals
      show (true && decide (bl.length = 0) && decide (la = 0)) = decide (_ = (⟨_, 0, sl, pl, []⟩ : St))
      cases bl with
      | nil => simp
      | cons x l => simp
  · have e : mayS ⟨kd, la, sl, pl, bl⟩ = (decide (wordsL kd ≠ []) && decide (bl.length = 0) && decide (la = 0)) := by
      unfold mayS
      split <;> first | (exfalso; simp_all; done) | rfl
    rw [e, wordsL_nil h]
    rfl
theorem wrd_ne (k : Nat) : (wordsL k = []) = ((wrdB k).1 = ⟨#[]⟩) := by
  by_cases h : 1 ≤ k ∧ k ≤ 10
  · have hc : k = 1 ∨ k = 2 ∨ k = 3 ∨ k = 4 ∨ k = 5 ∨ k = 6 ∨ k = 7 ∨ k = 8 ∨ k = 9 ∨ k = 10 := by omega
    rcases hc with rfl | rfl | rfl | rfl | rfl | rfl | rfl | rfl | rfl | rfl
    all_goals
      refine propext (Iff.intro (fun q => by cases q) (fun q => ?_))
      have := congrArg ByteArray.size q
      exact absurd this (by decide)
  · rw [wordsL_nil h]
    have e : wrdB k = (⟨#[]⟩, ⟨#[]⟩) := by
      unfold wrdB
      split <;> first | omega | rfl
    rw [e]
    simp
set_option maxRecDepth 100000 in
set_option maxHeartbeats 4000000 in
theorem mayR_any (w : World) (s : St) (bv : Value) (hb : Rd w bv (u8s s.by')) (hby : Byt s.by') :
    Calls Tryz.prog 44 #[s.val bv] w fun e w' => e = .returned (.bool (mayS s)) ∧ Fr [] w w' := by
  obtain ⟨bp, bn, bc, rfl⟩ : ∃ p n c, bv = .slice p n c := by obtain ⟨p, c, rfl, _⟩ := hb; exact ⟨_, _, _, rfl⟩
  obtain ⟨W, hW⟩ : ∃ W, W = (wrdB s.kd).1 := ⟨_, rfl⟩
  obtain ⟨M, hM⟩ : ∃ M, M = mayS s := ⟨_, rfl⟩
  rw [← hM]
  have HM := Lib.hid hM
  have HW := Lib.hid (fun X => show Calls Tryz.prog 41 #[.int .u8 s.kd] X fun e w' => e = .returned (.tuple #[.string W, .string (wrdB s.kd).2]) ∧ w' = X from by rw [hW]; exact word_any X s.kd)
  generalize (wrdB s.kd).2 = L at HW
  show Calls Tryz.prog 44 #[.agg #[.int .u8 s.kd, .int .i64 s.la, .int .i64 s.sl, .int .i64 s.pl, .slice bp bn bc]] w _
  obtain ⟨w0, hw0⟩ : ∃ w0, w.alloc (.cells #[.int .u8 s.kd, .int .i64 s.la, .int .i64 s.sl, .int .i64 s.pl, .slice bp bn bc] 64) = w0 := ⟨_, rfl⟩
  obtain ⟨xb, hxb⟩ : ∃ xb, xb = w.heap.size := ⟨_, rfl⟩
  have hx0 : Blk w0 xb #[.int .u8 s.kd, .int .i64 s.la, .int .i64 s.sl, .int .i64 s.pl, .slice bp bn bc] 64 := by rw [← hw0]; exact Blk.new_at hxb _ _
  have hf0 : Fr [] w w0 := by rw [← hw0]; exact (Fr.refl [] w).alloc _
  have HB := Lib.hid hx0
  have HF0 := Lib.hid hf0
  have HRD := Lib.hid (And.intro (hb.grow hf0) hby)
  have HXB := Lib.hid hxb
  have HW0 := Lib.hid hw0
  have HWW := Lib.hid hW
  clear hM hb hby hxb hx0 hf0 hw0 hW
  go_enter Tryz.func44, Tryz.ntmps44
  go_upto_region 1 with fail
  rw [HW0.out, ← HXB.out]
  have c0 := HB.out.at 0 (v := .int .u8 s.kd) rfl
  go_wp2_with fail
  (with_reducible refine (HW.out _).mono ?_)
  rintro e wz ⟨rfl, hwz⟩
  rw [hwz]
  clear hwz
  by_cases hne : W = ⟨#[]⟩
  · have e1 : (W.toList == (⟨#[]⟩ : ByteArray).toList) = true := beq_is hne
    have e2 : (W.toList == []) = true := by rw [hne]; kernel_rfl
    have e3 : (W.toList != []) = false := by rw [hne]; kernel_rfl
    have HMY := Lib.hid (show M = false by rw [HM.out, may_is, decide_eq_false (fun q => q (by rw [wrd_ne, ← HWW.out, hne]))]; rfl)
    clear hne c0
    go_wp2_with fail
    refine region_grow (by kernel_rfl) (by kernel_rfl) [.is (.string W), .is (.bool false), .is (.bool false), .any, .any, .any, .any, .is (.bool false), .is (.bool false)] 19 rfl (by kernel_rfl) [(0, 11), (1, 12), (2, 13), (3, 14), (4, 15), (5, 16), (6, 17), (7, 18), (8, 2)] (by kernel_rfl) ?_ ?_
    · intro q a1 W1 i hi hnq hd hG K hK
      have hlt : i < 9 := hi
      have hc : i = 0 ∨ i = 1 ∨ i = 2 ∨ i = 3 ∨ i = 4 ∨ i = 5 ∨ i = 6 ∨ i = 7 ∨ i = 8 := by omega
      rcases hc with rfl | rfl | rfl | rfl | rfl | rfl | rfl | rfl | rfl
      · have e3 := hG.old 3 (by kernel_rfl)
        refine op_do rfl (wanted_none rfl) hK (fun K' hK' => ?_)
        unfold Oper.wp
        go_simp
        exact hK' _ _ (Fr.refl _ _) rfl
      · have e11 := hG.val (v := .string W) 0 11 (hd _ rfl ⟨0, .data⟩ (by simp) rfl) rfl rfl
        refine op_do rfl (wanted_none rfl) hK (fun K' hK' => ?_)
        unfold Oper.wp
        go_simp
        exact hK' _ _ (Fr.refl _ _) rfl
      · have e12 := hG.val (v := .bool false) 1 12 (hd _ rfl ⟨1, .data⟩ (by simp) rfl) rfl rfl
        refine op_do rfl (wanted_none rfl) hK (fun K' hK' => ?_)
        unfold Oper.wp
        go_simp
        exact hK' _ _ (Fr.refl _ _) rfl
      · have e1 := hG.old 1 (by kernel_rfl)
        have eg := hG.val (v := .bool false) 2 13 (hd _ rfl ⟨2, .guard⟩ (by simp) rfl) rfl rfl
        exact op_skip rfl (by simp [Region.wanted, yielded, eg]) hK trivial
      · have e1 := hG.old 1 (by kernel_rfl)
        have eg := hG.val (v := .bool false) 2 13 (hd _ rfl ⟨2, .guard⟩ (by simp) rfl) rfl rfl
        exact op_skip rfl (by simp [Region.wanted, yielded, eg]) hK trivial
      · obtain ⟨u4, e15, -⟩ := hG.get 4 15 (hd _ rfl ⟨4, .data⟩ (by simp) rfl) rfl
        have eg := hG.val (v := .bool false) 2 13 (hd _ rfl ⟨2, .guard⟩ (by simp) rfl) rfl rfl
        exact op_skip rfl (by simp [Region.wanted, yielded, eg]) hK trivial
      · obtain ⟨u3, e14, -⟩ := hG.get 3 14 (hd _ rfl ⟨3, .data⟩ (by simp) rfl) rfl
        obtain ⟨u5, e16, -⟩ := hG.get 5 16 (hd _ rfl ⟨5, .data⟩ (by simp) rfl) rfl
        have eg := hG.val (v := .bool false) 2 13 (hd _ rfl ⟨2, .guard⟩ (by simp) rfl) rfl rfl
        exact op_skip rfl (by simp [Region.wanted, yielded, eg]) hK trivial
      · have e13 := hG.val (v := .bool false) 2 13 (hd _ rfl ⟨2, .data⟩ (by simp) rfl) rfl rfl
        obtain ⟨u6, e17, -⟩ := hG.get 6 17 (hd _ rfl ⟨6, .data⟩ (by simp) rfl) rfl
        refine op_do rfl (wanted_none rfl) hK (fun K' hK' => ?_)
        unfold Oper.wp
        go_simp
        exact hK' _ _ (Fr.refl _ _) rfl
      · have e18 := hG.val (v := .bool false) 7 18 (hd _ rfl ⟨7, .data⟩ (by simp) rfl) rfl rfl
        refine op_do rfl (wanted_none rfl) hK (fun K' hK' => ?_)
        unfold Oper.wp
        go_simp
        exact hK' _ _ (Fr.refl _ _) rfl
    · intro vs W1 f1 hv
      have r0 : vs 0 = .string W := hv 0 11 (by decide) rfl
      have r1 : vs 1 = .bool false := hv 1 12 (by decide) rfl
      have r2 : vs 2 = .bool false := hv 2 13 (by decide) rfl
      have r7 : vs 7 = .bool false := hv 7 18 (by decide) rfl
      have r8 : vs 8 = .bool false := hv 8 2 (by decide) rfl
      simp only [lay, List.foldl_cons, List.foldl_nil, r0, r1, r2, r7, r8]
      simp only [List.setIfInBounds_toArray, List.set_cons_zero, List.set_cons_succ]
      clear hv r0 r1 r2 r7 r8
      generalize vs 3 = x3 at *
      generalize vs 4 = x4 at *
      generalize vs 5 = x5 at *
      generalize vs 6 = x6 at *
      go_wp2
      go_ret
      refine ⟨by rw [HMY.out]; rfl, (HF0.out.trans f1 (by simp))⟩
  · have e1 : (W.toList == (⟨#[]⟩ : ByteArray).toList) = false := beq_not hne
    have e2 : (W.toList == []) = false := by rw [← e1]; rw [ByteArray.toList_eq (⟨#[]⟩ : ByteArray)]
    have e3 : (W.toList != []) = true := by rw [bne, e2]; rfl
    have HMY := Lib.hid (show M = decide (s = bareS s) by rw [HM.out, may_is, decide_eq_true (by intro q; rw [wrd_ne, ← HWW.out] at q; exact hne q), Bool.true_and])
    clear hne c0
    go_wp2_with fail
    refine region_grow (by kernel_rfl) (by kernel_rfl) [.is (.string W), .is (.bool true), .is (.bool true), .is (.agg #[.int .u8 s.kd, .int .i64 s.la, .int .i64 s.sl, .int .i64 s.pl, .slice bp bn bc]), .is (.agg #[.int .u8 s.kd, .int .i64 s.la, .int .i64 s.sl, .int .i64 s.pl, .slice bp bn bc]), .is ((bareS s).val (bareV s (.slice bp bn bc))), .is (.bool (decide (s = bareS s))), .is (.bool (decide (s = bareS s))), .is (.bool (decide (s = bareS s)))] 19 rfl (by kernel_rfl) [(0, 11), (1, 12), (2, 13), (3, 14), (4, 15), (5, 16), (6, 17), (7, 18), (8, 2)] (by kernel_rfl) ?_ ?_
    · intro q a1 W1 i hi hnq hd hG K hK
      have hlt : i < 9 := hi
      have hc : i = 0 ∨ i = 1 ∨ i = 2 ∨ i = 3 ∨ i = 4 ∨ i = 5 ∨ i = 6 ∨ i = 7 ∨ i = 8 := by omega
      rcases hc with rfl | rfl | rfl | rfl | rfl | rfl | rfl | rfl | rfl
      · have e3 := hG.old 3 (by kernel_rfl)
        refine op_do rfl (wanted_none rfl) hK (fun K' hK' => ?_)
        unfold Oper.wp
        go_simp
        exact hK' _ _ (Fr.refl _ _) rfl
      · have e11 := hG.val (v := .string W) 0 11 (hd _ rfl ⟨0, .data⟩ (by simp) rfl) rfl rfl
        refine op_do rfl (wanted_none rfl) hK (fun K' hK' => ?_)
        unfold Oper.wp
        go_simp
        exact hK' _ _ (Fr.refl _ _) rfl
      · have e12 := hG.val (v := .bool true) 1 12 (hd _ rfl ⟨1, .data⟩ (by simp) rfl) rfl rfl
        refine op_do rfl (wanted_none rfl) hK (fun K' hK' => ?_)
        unfold Oper.wp
        go_simp
        exact hK' _ _ (Fr.refl _ _) rfl
      · have e1 := hG.old 1 (by kernel_rfl)
        have eg := hG.val (v := .bool true) 2 13 (hd _ rfl ⟨2, .guard⟩ (by simp) rfl) rfl rfl
        have q5 := (hG.grown.blk HB.out (by simp)).st
        refine op_do rfl (by simp [Region.wanted, yielded, eg]) hK (fun K' hK' => ?_)
        unfold Oper.wp
        go_simp
        exact hK' _ _ (Fr.refl _ _) rfl
      · have e1 := hG.old 1 (by kernel_rfl)
        have eg := hG.val (v := .bool true) 2 13 (hd _ rfl ⟨2, .guard⟩ (by simp) rfl) rfl rfl
        have q5 := (hG.grown.blk HB.out (by simp)).st
        refine op_do rfl (by simp [Region.wanted, yielded, eg]) hK (fun K' hK' => ?_)
        unfold Oper.wp
        go_simp
        exact hK' _ _ (Fr.refl _ _) rfl
      · have e15 := hG.val (v := .agg #[.int .u8 s.kd, .int .i64 s.la, .int .i64 s.sl, .int .i64 s.pl, .slice bp bn bc]) 4 15 (hd _ rfl ⟨4, .data⟩ (by simp) rfl) rfl rfl
        have eg := hG.val (v := .bool true) 2 13 (hd _ rfl ⟨2, .guard⟩ (by simp) rfl) rfl rfl
        refine op_do rfl (by simp [Region.wanted, yielded, eg]) hK (fun K' hK' => ?_)
        unfold Oper.wp
        go_simp
        refine (bare_any W1 s bp bn bc).mono ?_
        rintro e W2 ⟨rfl, hf⟩
        exact hK' _ _ hf rfl
      · have e14 := hG.val (v := .agg #[.int .u8 s.kd, .int .i64 s.la, .int .i64 s.sl, .int .i64 s.pl, .slice bp bn bc]) 3 14 (hd _ rfl ⟨3, .data⟩ (by simp) rfl) rfl rfl
        have e16 := hG.val (v := (bareS s).val (bareV s (.slice bp bn bc))) 5 16 (hd _ rfl ⟨5, .data⟩ (by simp) rfl) rfl rfl
        have eg := hG.val (v := .bool true) 2 13 (hd _ rfl ⟨2, .guard⟩ (by simp) rfl) rfl rfl
        refine op_do rfl (by simp [Region.wanted, yielded, eg]) hK (fun K' hK' => ?_)
        unfold Oper.wp
        go_simp
        refine (same_step_any W1 s (bareS s) (.slice bp bn bc) (bareV s (.slice bp bn bc)) (HRD.out.1.grow hG.grown) (bare_rd (HRD.out.1.grow hG.grown)) HRD.out.2 (bare_byt HRD.out.2)).mono ?_
        rintro e W2 ⟨rfl, hf⟩
        exact hK' _ _ hf rfl
      · have e13 := hG.val (v := .bool true) 2 13 (hd _ rfl ⟨2, .data⟩ (by simp) rfl) rfl rfl
        have e17 := hG.val (v := .bool (decide (s = bareS s))) 6 17 (hd _ rfl ⟨6, .data⟩ (by simp) rfl) rfl rfl
        refine op_do rfl (wanted_none rfl) hK (fun K' hK' => ?_)
        unfold Oper.wp
        go_simp
        exact hK' _ _ (Fr.refl _ _) rfl
      · have e18 := hG.val (v := .bool (decide (s = bareS s))) 7 18 (hd _ rfl ⟨7, .data⟩ (by simp) rfl) rfl rfl
        refine op_do rfl (wanted_none rfl) hK (fun K' hK' => ?_)
        unfold Oper.wp
        go_simp
        exact hK' _ _ (Fr.refl _ _) rfl
    · intro vs W1 f1 hv
      have r0 : vs 0 = .string W := hv 0 11 (by decide) rfl
      have r1 : vs 1 = .bool true := hv 1 12 (by decide) rfl
      have r2 : vs 2 = .bool true := hv 2 13 (by decide) rfl
      have r3 : vs 3 = .agg #[.int .u8 s.kd, .int .i64 s.la, .int .i64 s.sl, .int .i64 s.pl, .slice bp bn bc] := hv 3 14 (by decide) rfl
      have r4 : vs 4 = .agg #[.int .u8 s.kd, .int .i64 s.la, .int .i64 s.sl, .int .i64 s.pl, .slice bp bn bc] := hv 4 15 (by decide) rfl
      have r5 : vs 5 = (bareS s).val (bareV s (.slice bp bn bc)) := hv 5 16 (by decide) rfl
      have r6 : vs 6 = .bool (decide (s = bareS s)) := hv 6 17 (by decide) rfl
      have r7 : vs 7 = .bool (decide (s = bareS s)) := hv 7 18 (by decide) rfl
      have r8 : vs 8 = .bool (decide (s = bareS s)) := hv 8 2 (by decide) rfl
      simp only [lay, List.foldl_cons, List.foldl_nil, r0, r1, r2, r3, r4, r5, r6, r7, r8]
      simp only [List.setIfInBounds_toArray, List.set_cons_zero, List.set_cons_succ]
      clear hv r0 r1 r2 r3 r4 r5 r6 r7 r8
      go_wp2
      go_ret
      refine ⟨by rw [HMY.out]; rfl, (HF0.out.trans f1 (by simp))⟩
end Sc
end Go.Proofs.YtbpgpjibljgiiaaGreatDoor
namespace Go.Proofs.YtbpgpjibljgiiaaGreatDoor
open Go.RowKit
set_option linter.unusedVariables false
set_option linter.unusedSimpArgs false
attribute [local go_sem] Oper.semAt_some
/-- A slice of two bytes, in memory of its own. -/
def Stab.slot2 (y z : Int) : Stab := ⟨fun u W => ∃ g, u = .slice (some ⟨g, 0, none⟩) 2 2 ∧ Blk W g #[.int .u8 y, .int .u8 z] 5, fun _ _ _ f ⟨g, h1, h2⟩ => ⟨g, h1, f.blk h2 (by simp)⟩⟩
namespace Sc
/-- A hexadecimal digit. -/
def digR (n : Int) : Int := if n < 10 then 48 + n else 97 + n - 10
theorem own_new (w : World) (x : Value) (e : TypeId) : (w.alloc (.cells #[x] e)).ownsRow 0 e 1 (.slice (some ⟨w.heap.size, 0, none⟩) 1 1) 1 [x] := by
  refine ⟨rfl, .inr ⟨w.heap.size, 1, #[x], rfl, Nat.zero_le _, Blk.new _ _ _, Nat.le_refl _, by decide, rfl, rfl⟩⟩
/-- The digits of bytes. -/
def hexN' (l : List Int) : List Int := l.flatMap fun z => [digR (z / 16), digR (z % 16)]
def hexN (l : List Int) : List Int := if l = [] then [45] else hexN' l
theorem hexN'_app (l : List Int) (z : Int) : hexN' (l ++ [z]) = hexN' l ++ [digR (z / 16), digR (z % 16)] := by simp [hexN']
theorem hexN'_len (l : List Int) : (hexN' l).length = 2 * l.length := by
  induction l with
  | nil => rfl
  | cons z l ih => simp [hexN'] at ih ⊢; omega
end Sc
end Go.Proofs.YtbpgpjibljgiiaaGreatDoor
namespace Go.Proofs.YtbpgpjibljgiiaaGreatDoor
set_option linter.unusedVariables false
set_option linter.unusedSimpArgs false
namespace Sc
def loseB : ByteArray := ⟨#[108, 111, 115, 101]⟩
def twiceB : ByteArray := ⟨#[116, 119, 105, 99, 101]⟩
theorem kindN_is {x : ByteArray} {k : Nat} (h : kindN x = k) (h0 : k ≠ 0) : (wordsL k).head? = some x := by
  unfold kindN at h
  have key : ∀ n j, kindFrom x n j = k → (wordsL k).head? = some x := by
    intro n
    induction n with
    | zero => intro j hj; exact absurd hj.symm h0
    | succ n ih =>
      intro j hj
      rw [kindFrom] at hj
      split at hj
      · subst hj; assumption
      · exact ih _ hj
  exact key _ _ h
/-- The step that the document reads, where the kind is j and its fields begin at k. -/
def stOf (j : Nat) (F : List ByteArray) (k : Nat) : St :=
  if (wrdB j).2 = ⟨#[66]⟩ then ⟨j, 0, 0, 0, (bytL (fld F k)).getD []⟩ else if (wrdB j).2 = ⟨#[78]⟩ then ⟨j, (scan (fld F k).data.toList).getD 0, 0, 0, []⟩
  else if (wrdB j).2 = ⟨#[78, 78]⟩ then ⟨j, 0, (scan (fld F k).data.toList).getD 0, (scan (fld F (k + 1)).data.toList).getD 0, []⟩ else ⟨j, 0, 0, 0, []⟩
theorem wrong_B (F : List ByteArray) (k : Nat) : wrongG F k [66] = thenF (bytF F k) (overF F (nextK F k)) := by
  unfold bytF nextK
  rw [wrongG]
  by_cases h : k < F.length
  · rw [if_pos h, if_pos h, if_pos h, show rightB (fld F k) 66 = (bytL (fld F k)).isSome from rfl]
    cases bytL (fld F k) <;> rfl
  · rw [if_neg h, if_neg h]; rfl
theorem wrong_N (F : List ByteArray) (k : Nat) : wrongG F k [78] = thenF (numF F k) (overF F (nextK F k)) := by
  unfold numF nextK
  rw [wrongG]
  by_cases h : k < F.length
  · rw [if_pos h, if_pos h, if_pos h, show rightB (fld F k) 78 = (scan (fld F k).data.toList).isSome from rfl]
    cases scan (fld F k).data.toList <;> rfl
  · rw [if_neg h, if_neg h]; rfl
theorem wrong_NN (F : List ByteArray) (k : Nat) : wrongG F k [78, 78] = thenF (twoF F k) (overF F (twoK F k)) := by
  unfold twoF twoK
  rw [wrongG]
  by_cases h : k < F.length
  · rw [if_pos h, show rightB (fld F k) 78 = (scan (fld F k).data.toList).isSome from rfl]
    cases hs : scan (fld F k).data.toList with
    | none =>
      have hn : numF F k = some (k, 281) := by unfold numF; rw [if_pos h, hs]; rfl
      rw [hn]; rfl
    | some v =>
      have hn : numF F k = none := by unfold numF; rw [if_pos h, hs]; rfl
      have hk : nextK F k = k + 1 := by unfold nextK; rw [if_pos h]
      rw [hn, hk]
      show wrongG F (k + 1) [78] = _
      rw [wrong_N]; rfl
  · have hn : numF F k = some (k, 282) := by unfold numF; rw [if_neg h]
    rw [if_neg h, hn]; rfl
theorem thenF_none {f g : Flt} (h : thenF f g = none) : f = none ∧ g = none := by
  cases f with
  | none => exact ⟨rfl, h⟩
  | some q => cases h
theorem numN_of {F : List ByteArray} {k : Nat} (h : numF F k = none) : numN F k = (scan (fld F k).data.toList).getD 0 ∧ nextK F k = k + 1 := by
  have h2 := numF_none h
  exact ⟨if_pos h2, if_pos h2⟩
theorem two_of {F : List ByteArray} {k : Nat} (h : twoF F k = none) : twoS F k = (scan (fld F k).data.toList).getD 0 ∧ twoP F k = (scan (fld F (k + 1)).data.toList).getD 0 := by
  unfold twoF at h
  unfold twoS twoP
  split at h
  · rename_i h1
    rw [h] at h1
    cases h1
  · rename_i h1
    rw [if_neg h1, if_neg h1]
    have h0 : numF F k = none := by
      cases hn : numF F k with
      | none => rfl
      | some q => rw [hn] at h1; exact absurd rfl h1
    obtain ⟨h2, h3⟩ := numN_of h0
    rw [h3] at h ⊢
    exact ⟨h2, (numN_of h).1⟩
theorem kind_eq {x : ByteArray} {j : Nat} (hj : 1 ≤ j ∧ j ≤ 6) (h : x = (wrdB j).1) : kindN x = j := by
  have hc : j = 1 ∨ j = 2 ∨ j = 3 ∨ j = 4 ∨ j = 5 ∨ j = 6 := by omega
  subst h
  rcases hc with rfl | rfl | rfl | rfl | rfl | rfl <;> decide +kernel
theorem wrd_blank {j : Nat} (hj : 7 ≤ j ∧ j ≤ 10) : (32 : UInt8) ∈ (wrdB j).1.data.toList := by
  have hc : j = 7 ∨ j = 8 ∨ j = 9 ∨ j = 10 := by omega
  rcases hc with rfl | rfl | rfl | rfl <;> decide +kernel
/-- The line begins with a word of its own. -/
theorem ref_one {F : List ByteArray} {j : Nat} (hb : (32 : UInt8) ∉ (fld F 0).data.toList) (hj : 1 ≤ j ∧ j ≤ 10) (h : (wrdB j).1 = fld F 0) :
    stepF F = wrongG F 1 (wrdB j).2.data.toList ∧ (stepF F = none → stepS F = stOf j F 1) := by
  have h6 : j ≤ 6 := by
    rcases Nat.lt_or_ge 6 j with q | q
    · exact absurd (wrd_blank ⟨q, hj.2⟩) (by rw [h]; exact hb)
    · exact q
  have hk := kind_eq ⟨hj.1, h6⟩ h.symm
  have hc : j = 1 ∨ j = 2 ∨ j = 3 ∨ j = 4 ∨ j = 5 ∨ j = 6 := by omega
  rcases hc with rfl | rfl | rfl | rfl | rfl | rfl
  · rw [stepF, stepS, hk]
    refine ⟨(wrong_B F 1).symm, fun hn => ?_⟩
    have h1 := (thenF_none hn).1
    show (⟨1, 0, 0, 0, bytN F 1⟩ : St) = ⟨1, 0, 0, 0, (bytL (fld F 1)).getD []⟩
    unfold bytF at h1
    unfold bytN
    split at h1
    · rename_i hl; rw [if_pos hl]
    · cases h1
  · rw [stepF, stepS, hk]
    refine ⟨(wrong_N F 1).symm, fun hn => ?_⟩
    show (⟨2, numN F 1, 0, 0, []⟩ : St) = ⟨2, (scan (fld F 1).data.toList).getD 0, 0, 0, []⟩
    rw [(numN_of (thenF_none hn).1).1]
  · rw [stepF, stepS, hk]; exact ⟨rfl, fun _ => rfl⟩
  · rw [stepF, stepS, hk]; exact ⟨rfl, fun _ => rfl⟩
  · rw [stepF, stepS, hk]
    refine ⟨(wrong_NN F 1).symm, fun hn => ?_⟩
    show (⟨5, 0, twoS F 1, twoP F 1, []⟩ : St) = ⟨5, 0, (scan (fld F 1).data.toList).getD 0, (scan (fld F 2).data.toList).getD 0, []⟩
    rw [(two_of (thenF_none hn).1).1, (two_of (thenF_none hn).1).2]
  · rw [stepF, stepS, hk]
    refine ⟨(wrong_NN F 1).symm, fun hn => ?_⟩
    show (⟨6, 0, twoS F 1, twoP F 1, []⟩ : St) = ⟨6, 0, (scan (fld F 1).data.toList).getD 0, (scan (fld F 2).data.toList).getD 0, []⟩
    rw [(two_of (thenF_none hn).1).1, (two_of (thenF_none hn).1).2]
theorem kind_lose : kindN loseB = 7 := by decide +kernel
theorem kind_twice : kindN twiceB = 9 := by decide +kernel
theorem way_fault {F : List ByteArray} (h : fld F 0 = loseB ∨ fld F 0 = twiceB) : stepF F = thenF (wayF F 1) (overF F (wayK F 1)) ∧ ∃ kd, (kd = 7 ∨ kd = 9) ∧ kindN (fld F 0) = kd ∧ stepS F = ⟨wayD kd F 1, 0, wayS F 1, wayP F 1, []⟩ := by
  rcases h with h | h
  · have hk : kindN (fld F 0) = 7 := by rw [h]; exact kind_lose
    rw [stepF, stepS, hk]
    exact ⟨rfl, 7, .inl rfl, rfl, rfl⟩
  · have hk : kindN (fld F 0) = 9 := by rw [h]; exact kind_twice
    rw [stepF, stepS, hk]
    exact ⟨rfl, 9, .inr rfl, rfl, rfl⟩
theorem ref_short {F : List ByteArray} (h : fld F 0 = loseB ∨ fld F 0 = twiceB) (hl : ¬ 1 < F.length) : stepF F = some (1, 282) := by
  rw [(way_fault h).1]
  have : wayF F 1 = some (1, 282) := by
    unfold wayF
    rw [if_neg (fun q => hl q.1), if_neg hl]
  rw [this]; rfl
theorem ref_way {F : List ByteArray} (h : fld F 0 = loseB ∨ fld F 0 = twiceB) (hl : 1 < F.length) (hw : ¬ (fld F 1 = downB ∨ fld F 1 = upB)) : stepF F = some (1, 281) := by
  rw [(way_fault h).1]
  have : wayF F 1 = some (1, 281) := by
    unfold wayF
    rw [if_neg (fun q => hw q.2.symm), if_pos hl]
  rw [this]; rfl
/-- The line begins with two words. -/
theorem ref_two {F : List ByteArray} {j : Nat} (h : fld F 0 = loseB ∨ fld F 0 = twiceB) (hl : 1 < F.length) (hw : fld F 1 = downB ∨ fld F 1 = upB) (hj : 1 ≤ j ∧ j ≤ 10) (hq : (wrdB j).1 = fld F 0 ++ ⟨#[32]⟩ ++ fld F 1) :
    stepF F = wrongG F 2 (wrdB j).2.data.toList ∧ (stepF F = none → stepS F = stOf j F 2) := by
  obtain ⟨h1, kd, hkd, hk, h2⟩ := way_fault h
  have hok : wayOk F 1 := ⟨hl, hw.symm⟩
  have e1 : wayF F 1 = twoF F 2 := if_pos hok
  have e2 : wayK F 1 = twoK F 2 := if_pos hok
  have e3 : wayS F 1 = twoS F 2 := if_pos hok
  have e4 : wayP F 1 = twoP F 2 := if_pos hok
  rw [e1, e2] at h1
  rw [e3, e4] at h2
  have hL : (wrdB j).2 = ⟨#[78, 78]⟩ ∧ wayD kd F 1 = j := by
    have hc : j = 1 ∨ j = 2 ∨ j = 3 ∨ j = 4 ∨ j = 5 ∨ j = 6 ∨ j = 7 ∨ j = 8 ∨ j = 9 ∨ j = 10 := by omega
    have hup : ∀ n, fld F 1 = upB → wayD n F 1 = n + 1 := fun n q => if_pos ⟨hl, q⟩
    have hdn : ∀ n, fld F 1 = downB → wayD n F 1 = n := fun n q => if_neg (fun z => by rw [q] at z; exact absurd z.2 (by decide))
    rcases h with h | h <;> rcases hw with hw | hw <;> rw [h, hw] at hq
    · have hkd7 : kd = 7 := by rw [← hk, h]; exact kind_lose
      rw [hdn _ hw, hkd7]
      rcases hc with rfl | rfl | rfl | rfl | rfl | rfl | rfl | rfl | rfl | rfl <;> first | exact ⟨rfl, rfl⟩ | exact absurd hq (by decide +kernel)
    · have hkd7 : kd = 7 := by rw [← hk, h]; exact kind_lose
      rw [hup _ hw, hkd7]
      rcases hc with rfl | rfl | rfl | rfl | rfl | rfl | rfl | rfl | rfl | rfl <;> first | exact ⟨rfl, rfl⟩ | exact absurd hq (by decide +kernel)
    · have hkd7 : kd = 9 := by rw [← hk, h]; exact kind_twice
      rw [hdn _ hw, hkd7]
      rcases hc with rfl | rfl | rfl | rfl | rfl | rfl | rfl | rfl | rfl | rfl <;> first | exact ⟨rfl, rfl⟩ | exact absurd hq (by decide +kernel)
    · have hkd7 : kd = 9 := by rw [← hk, h]; exact kind_twice
      rw [hup _ hw, hkd7]
      rcases hc with rfl | rfl | rfl | rfl | rfl | rfl | rfl | rfl | rfl | rfl <;> first | exact ⟨rfl, rfl⟩ | exact absurd hq (by decide +kernel)
  rw [hL.1]
  refine ⟨h1.trans (wrong_NN F 2).symm, fun hn => ?_⟩
  rw [h1] at hn
  obtain ⟨q1, q2⟩ := two_of (thenF_none hn).1
  rw [h2, hL.2, q1, q2]
  unfold stOf
  rw [hL.1]
  rfl
/-- No kind begins so. -/
theorem ref_none {F : List ByteArray} (h1 : fld F 0 ≠ loseB) (h2 : fld F 0 ≠ twiceB) (h : ∀ j, 1 ≤ j → j < 11 → (wrdB j).1 ≠ fld F 0) : stepF F = some (0, 280) := by
  rcases kindN_cases (fld F 0) with hk | hk | hk | hk | hk | hk | hk | hk | hk
  · rw [stepF, hk]; rfl
  · exact absurd (Option.some.inj (kindN_is hk (by decide))) (h 1 (by decide) (by decide))
  · exact absurd (Option.some.inj (kindN_is hk (by decide))) (h 2 (by decide) (by decide))
  · exact absurd (Option.some.inj (kindN_is hk (by decide))) (h 3 (by decide) (by decide))
  · exact absurd (Option.some.inj (kindN_is hk (by decide))) (h 4 (by decide) (by decide))
  · exact absurd (Option.some.inj (kindN_is hk (by decide))) (h 5 (by decide) (by decide))
  · exact absurd (Option.some.inj (kindN_is hk (by decide))) (h 6 (by decide) (by decide))
  · exact absurd (Option.some.inj (kindN_is hk (by decide))).symm h1
  · exact absurd (Option.some.inj (kindN_is hk (by decide))).symm h2
theorem over_code {F : List ByteArray} {k : Nat} {q : Nat × Int} (h : overF F k = some q) : q.2 = 281 ∨ q.2 = 282 := by
  unfold overF at h
  split at h
  · cases h; exact .inr rfl
  · cases h
theorem wrong_code : ∀ {L : List UInt8} {F : List ByteArray} {k : Nat} {q : Nat × Int}, wrongG F k L = some q → q.2 = 281 ∨ q.2 = 282
  | [], F, k, q, h => over_code h
  | c :: r, F, k, q, h => by
    rw [wrongG] at h
    split at h
    · split at h
      · exact wrong_code h
      · cases h; exact .inl rfl
    · cases h; exact .inr rfl
theorem wrong_head {c : UInt8} {r : List UInt8} {F : List ByteArray} {k : Nat} (h : wrongG F k (c :: r) = none) : k < F.length ∧ rightB (fld F k) c = true ∧ wrongG F (k + 1) r = none := by
  rw [wrongG] at h
  split at h
  · rename_i h1
    split at h
    · rename_i h2
      exact ⟨h1, h2, h⟩
    · cases h
  · cases h
theorem ref_two_has {F : List ByteArray} (h : fld F 0 = loseB ∨ fld F 0 = twiceB) (hw : fld F 1 = downB ∨ fld F 1 = upB) : ∃ j, 1 ≤ j ∧ j < 11 ∧ (wrdB j).1 = fld F 0 ++ ⟨#[32]⟩ ++ fld F 1 := by
  rcases h with h | h <;> rcases hw with hw | hw <;> rw [h, hw]
  · exact ⟨7, by decide, by decide, by decide +kernel⟩
  · exact ⟨8, by decide, by decide, by decide +kernel⟩
  · exact ⟨9, by decide, by decide, by decide +kernel⟩
  · exact ⟨10, by decide, by decide, by decide +kernel⟩
end Sc
end Go.Proofs.YtbpgpjibljgiiaaGreatDoor
