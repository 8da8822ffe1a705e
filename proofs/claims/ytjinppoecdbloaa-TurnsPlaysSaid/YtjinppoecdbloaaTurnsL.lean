/-
  TurnsPlays: one call of both, by its kind.
-/
import Derived.Test.YtjinppoecdbloaaTurnsK
namespace Go.Proofs.Ytjinppoecdbloaa
open Go.RowKit Go.Shelf
set_option linter.unusedVariables false
attribute [local go_sem] Oper.semAt_some

/-- Who is found. -/
def fnd (n s : Nat) (bs : List Bool) : Option Nat := (List.range n).find? fun j => isReady bs (pos n s j)
def pkI (n s : Nat) (bs : List Bool) : Int := match fnd n s bs with | some j => (pos n s j : Nat) | none => -1
def pkOk (n s : Nat) (bs : List Bool) : Bool := (fnd n s bs).isSome
def pkK (n s : Nat) (bs : List Bool) : Nat := match fnd n s bs with | some j => j + 1 | none => n
def pkWs (n s : Nat) (bs : List Bool) (ws : List Int) : List Int := match fnd n s bs with | some j => given ws (pos n s j) | none => ws
def pkHad (n s : Nat) (bs : List Bool) (had : List Int) : List Int := match fnd n s bs with | some j => had ++ [(pos n s j : Int)] | none => had
theorem fnd_some {n s j : Nat} {bs : List Bool} (h1 : j < n) (h2 : ∀ k, k < j → isReady bs (pos n s k) = false) (h3 : isReady bs (pos n s j) = true) : fnd n s bs = some j := by
  unfold fnd
  rw [List.find?_range_eq_some]
  exact ⟨h3, List.mem_range.2 h1, fun k hk => by simp [h2 k hk]⟩
theorem fnd_none {n s : Nat} {bs : List Bool} (h : ∀ k, k < n → isReady bs (pos n s k) = false) : fnd n s bs = none := by
  unfold fnd
  rw [List.find?_range_eq_none]
  exact fun k hk => by simp [h k hk]
theorem fnd_lt {n s j : Nat} {bs : List Bool} (h : fnd n s bs = some j) : j < n := by
  unfold fnd at h
  rw [List.find?_range_eq_some] at h
  exact List.mem_range.1 h.2.1
theorem pkK_le (n s : Nat) (bs : List Bool) : pkK n s bs ≤ n := by
  unfold pkK
  cases h : fnd n s bs with
  | none => exact Nat.le_refl _
  | some j => exact fnd_lt h
theorem pkHad_len (n s : Nat) (bs : List Bool) (had : List Int) : (pkHad n s bs had).length ≤ had.length + 1 := by
  unfold pkHad
  cases h : fnd n s bs <;> simp

/-- What a St is behind a Next of both. -/
theorem pk_ws {n s : Nat} {bs : List Bool} {had ws : List Int} (hn : 0 < n) (h : WsOf had ws n) : WsOf (pkHad n s bs had) (pkWs n s bs ws) n := by
  unfold pkHad pkWs
  cases hf : fnd n s bs with
  | none => exact h
  | some j => exact h.given (pos_lt s j hn)
theorem pk_last {n s : Nat} {bs : List Bool} {had : List Int} (hn : 0 < n) (h1 : -1 ≤ lastOf had) (h2 : lastOf had < n) : -1 ≤ lastOf (pkHad n s bs had) ∧ lastOf (pkHad n s bs had) < n := by
  unfold pkHad
  cases hf : fnd n s bs with
  | none => exact ⟨h1, h2⟩
  | some j =>
    simp only [lastOf_snoc]
    have := pos_lt (n := n) s j hn
    omega

/-- How a list of who is ready lies beside both. -/
def Sep (w : World) (bt bw br : Nat) (v rv : Value) (bs : List Bool) : Prop :=
  ∀ g o n c, rv = .slice (some ⟨g, o, none⟩) n c → 0 < bs.length → g < w.heap.size ∧ g ≠ bt ∧ g ≠ bw ∧ g ≠ br ∧ ∀ x, v.ownBlock = some x → g ≠ x

def St.s {B : Nat} {w : World} {bt bw br n : Nat} {had ws : List Int} {v : Value} (_ : St B w bt bw br n had ws v) : Nat := (lastOf had + 1).toNat
theorem St.hs {B : Nat} {w : World} {bt bw br n : Nat} {had ws : List Int} {v : Value} (h : St B w bt bw br n had ws v) : (((lastOf had + 1).toNat : Nat) : Int) = lastOf had + 1 := by
  have := h.lo; omega

theorem next_st (B : Nat) (w : World) (bt bw br n : Nat) (had ws : List Int) (v rv : Value) (bs : List Bool) (h : St B w bt bw br n had ws v) (hl : had.length ≤ 100000) (hrv : Rd w rv (bools bs)) (hb : bs.length ≤ 9223372036854775807) (hsep : Sep w bt bw br v rv bs) :
    Calls Try.prog 17 #[.pointer (some ⟨bt, 0, none⟩), rv] w fun e w' => ∃ av, e = .returned (.tuple #[.int .i64 (pkI n (lastOf had + 1).toNat bs), .bool (pkOk n (lastOf had + 1).toNat bs), av]) ∧
      TurnsAt w' bt bw n (lastOf (pkHad n (lastOf had + 1).toNat bs had)) (pkWs n (lastOf had + 1).toNat bs ws) ∧ RdInts w' av (asks n (lastOf had + 1).toNat (pkK n (lastOf had + 1).toNat bs)) ∧ (∀ g o n c, av = .slice (some ⟨g, o, none⟩) n c → w.heap.size ≤ g) ∧ Fr [bt, bw] w w' := by
  have hbd := h.ws.bd
  refine (nextq_any w bt bw n (lastOf had + 1).toNat (lastOf had) ws rv bs h.n0 h.n1 h.lo h.hi h.hs (fun j hj => by have := hbd j hj; omega) h.t hrv hb (fun g o n c e hp => by obtain ⟨a, b, c, -, -⟩ := hsep g o n c e hp; exact ⟨a, b, c⟩)).mono ?_
  rintro e w' ⟨hf, (⟨j, av, h1, h2, h3, rfl, h5, h6, h7⟩ | ⟨av, h2, rfl, h5, h6, h7⟩)⟩
  · have e := fnd_some h1 h2 h3
    have ha : asks n (lastOf had + 1).toNat (pkK n (lastOf had + 1).toNat bs) = asks n (lastOf had + 1).toNat (j + 1) := by simp [pkK, e]
    refine ⟨av, by simp [pkI, pkOk, e], by simp only [pkHad, pkWs, e, lastOf_snoc]; exact h5, by rw [ha]; exact RdInts.of_own h6, fun g o n c hv => h7 g (by rw [hv]; rfl), hf⟩
  · have e := fnd_none h2
    have ha : asks n (lastOf had + 1).toNat (pkK n (lastOf had + 1).toNat bs) = asks n (lastOf had + 1).toNat n := by simp [pkK, e]
    refine ⟨av, by simp [pkI, pkOk, e], by simp only [pkHad, pkWs, e]; exact h5, by rw [ha]; exact RdInts.of_own h6, fun g o n c hv => h7 g (by rw [hv]; rfl), hf⟩

theorem rnext_st (B : Nat) (w : World) (bt bw br n : Nat) (had ws : List Int) (v rv : Value) (bs : List Bool) (hr : RefAt w br n had v) (hs : (((lastOf had + 1).toNat : Nat) : Int) = lastOf had + 1) (hhi : lastOf had < n) (hn0 : 0 < n) (hn : n ≤ 16) (hl : had.length ≤ 100000) (hrv : Rd w rv (bools bs)) (hb : bs.length ≤ 9223372036854775807) :
    Calls Try.prog 26 #[.pointer (some ⟨br, 0, none⟩), rv] w fun e w' => ∃ lv v', e = .returned (.tuple #[.int .i64 (pkI n (lastOf had + 1).toNat bs), .bool (pkOk n (lastOf had + 1).toNat bs), lv]) ∧
      RefAt w' br n (pkHad n (lastOf had + 1).toNat bs had) v' ∧ (v'.ownBlock = v.ownBlock ∨ ∃ g, v'.ownBlock = some g ∧ w.heap.size ≤ g) ∧ RdInts w' lv (asks n (lastOf had + 1).toNat (pkK n (lastOf had + 1).toNat bs)) ∧ Fr (br :: v.ownBlock.toList) w w' := by
  refine (rnext w br n (lastOf had + 1).toNat had v rv bs hr hl hn0 hn hs (by omega) hrv hb).mono ?_
  rintro e w' (⟨j, v', lv, h1, h2, h3, rfl, h5, h6, h7, h8⟩ | ⟨lv, h2, rfl, h5, h6⟩)
  · have e := fnd_some h1 h2 h3
    have ha : asks n (lastOf had + 1).toNat (pkK n (lastOf had + 1).toNat bs) = asks n (lastOf had + 1).toNat (j + 1) := by simp [pkK, e]
    exact ⟨lv, v', by simp [pkI, pkOk, e], by simp only [pkHad, e]; exact h5, h6, by rw [ha]; exact h7, h8⟩
  · have e := fnd_none h2
    have ha : asks n (lastOf had + 1).toNat (pkK n (lastOf had + 1).toNat bs) = asks n (lastOf had + 1).toNat n := by simp [pkK, e]
    exact ⟨lv, v, by simp [pkI, pkOk, e], by simp only [pkHad, e]; exact hr.fr h6 (by simp) (by simp), .inl rfl, by rw [ha]; exact h5, h6.mono (by simp)⟩

/-- What a call of both leaves. -/
def StepPost (B : Nat) (w : World) (bt bw br n : Nat) (had : List Int) (e : Ending) (w' : World) : Prop :=
  e = .returned (.bool true) ∧ ∃ had' ws' v', St B w' bt bw br n had' ws' v' ∧ had'.length ≤ had.length + 1 ∧ Below B w w'
theorem St.post {B : Nat} {w w' : World} {bt bw br n : Nat} {had ws : List Int} {v : Value} (h : St B w bt bw br n had ws v) (hB : B ≤ w.heap.size) (hf : Fr [] w w') : StepPost B w bt bw br n had (.returned (.bool true)) w' :=
  ⟨rfl, had, ws, v, h.fr hf, Nat.le_succ _, hf.below' hB (by simp)⟩

set_option maxRecDepth 100000 in
set_option maxHeartbeats 2000000 in
theorem step_other (B : Nat) (w : World) (bt bw br n : Nat) (had ws : List Int) (v rv : Value) (k N : Int) (h : St B w bt bw br n had ws v) (hB : B ≤ w.heap.size) (hrv : ∃ p l c, rv = .slice p l c) (hk : k < 1 ∨ 7 < k) :
    Calls Try.prog 19 #[.pointer (some ⟨bt, 0, none⟩), .pointer (some ⟨br, 0, none⟩), .agg #[.int .i64 k, rv, .int .i64 N]] w (StepPost B w bt bw br n had) := by
  obtain ⟨p, l, c, rfl⟩ := hrv
  have k1 : (k == 1) = false := by rw [beq_eq_false_iff_ne]; omega
  have k2 : (k == 2) = false := by rw [beq_eq_false_iff_ne]; omega
  have k3 : (k == 3) = false := by rw [beq_eq_false_iff_ne]; omega
  have k4 : (k == 4) = false := by rw [beq_eq_false_iff_ne]; omega
  have k5 : (k == 5) = false := by rw [beq_eq_false_iff_ne]; omega
  have k6 : (k == 6) = false := by rw [beq_eq_false_iff_ne]; omega
  have k7 : (k == 7) = false := by rw [beq_eq_false_iff_ne]; omega
  have H := Lib.hid h
  clear h hk
  go_enter Try.func19, Try.ntmps19
  go_wp2
  go_ret
  exact H.out.post hB ((Fr.refl _ _).alloc _)

set_option maxRecDepth 100000 in
set_option maxHeartbeats 2000000 in
theorem step_none (B : Nat) (w : World) (bt bw br n : Nat) (had ws : List Int) (v rv : Value) (N : Int) (h : St B w bt bw br n had ws v) (hB : B ≤ w.heap.size) (hrv : ∃ p l c, rv = .slice p l c) :
    Calls Try.prog 19 #[.pointer (some ⟨bt, 0, none⟩), .pointer (some ⟨br, 0, none⟩), .agg #[.int .i64 2, rv, .int .i64 N]] w (StepPost B w bt bw br n had) := by
  obtain ⟨p, l, c, rfl⟩ := hrv
  have H := Lib.hid h
  clear h
  go_enter Try.func19, Try.ntmps19
  go_wp2_with (go_at_call 24; refine (next_nil _ _).mono ?_; rintro e w1 ⟨rfl, f1⟩)
  go_ret
  exact H.out.post hB (((Fr.refl _ _).alloc _).trans f1 (by simp))

set_option maxRecDepth 100000 in
set_option maxHeartbeats 2000000 in
theorem step_tell (B : Nat) (w : World) (bt bw br n : Nat) (had ws : List Int) (v rv : Value) (N : Int) (h : St B w bt bw br n had ws v) (hB : B ≤ w.heap.size) (hl : had.length ≤ 100000) (hrv : ∃ p l c, rv = .slice p l c) :
    Calls Try.prog 19 #[.pointer (some ⟨bt, 0, none⟩), .pointer (some ⟨br, 0, none⟩), .agg #[.int .i64 5, rv, .int .i64 N]] w (StepPost B w bt bw br n had) := by
  obtain ⟨p, l, c, rfl⟩ := hrv
  have H := Lib.hid h
  clear h
  go_enter Try.func19, Try.ntmps19
  go_wp2_with (go_at_call 20; refine (told_any B _ bt bw br n had ws v (H.out.fr ((Fr.refl _ _).alloc _)) hl).mono ?_; rintro e w1 ⟨rfl, f1⟩)
  go_ret
  exact H.out.post hB (((Fr.refl _ _).alloc _).trans f1 (by simp))

set_option maxRecDepth 100000 in
set_option maxHeartbeats 2000000 in
theorem step_order (B : Nat) (w : World) (bt bw br n : Nat) (had ws : List Int) (v rv : Value) (N : Int) (h : St B w bt bw br n had ws v) (hB : B ≤ w.heap.size) (hl : had.length ≤ 100000) (hrv : ∃ p l c, rv = .slice p l c) :
    Calls Try.prog 19 #[.pointer (some ⟨bt, 0, none⟩), .pointer (some ⟨br, 0, none⟩), .agg #[.int .i64 3, rv, .int .i64 N]] w (StepPost B w bt bw br n had) := by
  obtain ⟨p, l, c, rfl⟩ := hrv
  have H := Lib.hid h
  clear h
  have hhi := H.out.hi
  have hlo := H.out.lo
  have hn1 := H.out.n1
  have hn0 := H.out.n0
  have hsn : (lastOf had + 1).toNat ≤ n := by omega
  have hu : upTo 0 n = n := by unfold upTo; rw [if_neg (by omega)]
  have HU := Lib.hid hu
  clear hu
  go_enter Try.func19, Try.ntmps19
  go_wp2_with fail
  have S1 := H.out.fr ((Fr.refl [] w).alloc (.cells #[.int .i64 3, .slice p l c, .int .i64 N] 47))
  (with_reducible refine (orderq_any _ bt bw n (lastOf had + 1).toNat (lastOf had) 0 ws hn0 hn1 hlo hhi S1.hs S1.t).mono ?_)
  rintro e w1 ⟨v1, rfl, o1, n1, f1⟩
  rw [HU.out] at o1
  have S2 := S1.fr f1
  have HS := Lib.hid S2.hs
  have HR := Lib.hid S2.r
  clear S2
  go_wp2_with fail
  (with_reducible refine (rorder w1 br n (lastOf had + 1).toNat had v HR.out (by omega) hn0 hn1 HS.out hsn).mono ?_)
  rintro e w2 ⟨v2, rfl, o2, n2, f2⟩
  have r1 := RdInts.of_own (own_fr o1 f2 (by simp))
  have r2 := RdInts.of_own o2
  have hal : (asks n (lastOf had + 1).toNat n).length ≤ 1000000 := by rw [asks_len]; omega
  go_wp2_with fail
  (with_reducible refine (same_any w2 _ _ _ _ r1 r2 hal hal).mono ?_)
  rintro e w3 ⟨he, j, rfl⟩
  rw [decide_eq_true rfl] at he
  subst he
  clear S1 r1 r2 o1 o2
  go_wp2
  go_ret
  exact H.out.post hB (((((Fr.refl _ _).alloc _).trans f1 (by simp)).trans f2 (by simp)).drewN _)

end Go.Proofs.Ytjinppoecdbloaa
