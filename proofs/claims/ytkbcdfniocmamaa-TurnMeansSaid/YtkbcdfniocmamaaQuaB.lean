/-
  Plainly: quarters and whole ways: undone exactly, placed exactly, found again.
-/
import Derived.Test.YtkbcdfniocmamaaQuaA
import Derived.Test.YtkbcdfniocmamaaMapN
namespace Go.Proofs.Ytkbcdfniocmamaa
open Flo
section
variable {x y c d u v s t r i : Nat} {A B C D : Int}
theorem Quar.sm (h : Quar x y A B) : Sm 1 x A ∧ Sm 1 y B := by
  rcases h with ⟨rfl, rfl, rfl, rfl⟩ | ⟨rfl, rfl, rfl, rfl⟩ | ⟨rfl, rfl, rfl, rfl⟩ | ⟨rfl, rfl, rfl, rfl⟩
  · exact ⟨sm_one, sm_zero.mono (by omega)⟩
  · exact ⟨sm_zero.mono (by omega), sm_one⟩
  · exact ⟨sm_neg, sm_zero.mono (by omega)⟩
  · exact ⟨sm_zero.mono (by omega), sm_neg⟩
theorem Quar.num (h : Quar x y A B) : (A = 1 ∧ B = 0) ∨ (A = 0 ∧ B = 1) ∨ (A = -1 ∧ B = 0) ∨ (A = 0 ∧ B = -1) := by
  rcases h with ⟨rfl, rfl, rfl, rfl⟩ | ⟨rfl, rfl, rfl, rfl⟩ | ⟨rfl, rfl, rfl, rfl⟩ | ⟨rfl, rfl, rfl, rfl⟩ <;> simp
theorem Quar.lt (h : Quar x y A B) : x < 2 ^ 64 ∧ y < 2 ^ 64 := by
  rcases h with ⟨rfl, rfl, rfl, rfl⟩ | ⟨rfl, rfl, rfl, rfl⟩ | ⟨rfl, rfl, rfl, rfl⟩ | ⟨rfl, rfl, rfl, rfl⟩ <;> omega
theorem quar_square (h : Quar x y A B) {q : Nat} (hq : SquareR x y q) : IsW q 1 := by
  obtain ⟨m, n, h1, h2, h3⟩ := hq
  have hs := h.sm
  have e1 := isW_mul hs.1.1 hs.1.1 (by rcases h.num with ⟨rfl, rfl⟩ | ⟨rfl, rfl⟩ | ⟨rfl, rfl⟩ | ⟨rfl, rfl⟩ <;> decide) h1
  have e2 := isW_mul hs.2.1 hs.2.1 (by rcases h.num with ⟨rfl, rfl⟩ | ⟨rfl, rfl⟩ | ⟨rfl, rfl⟩ | ⟨rfl, rfl⟩ <;> decide) h2
  have e : A * A + B * B = 1 := by rcases h.num with ⟨rfl, rfl⟩ | ⟨rfl, rfl⟩ | ⟨rfl, rfl⟩ | ⟨rfl, rfl⟩ <;> decide
  have e3 := isW_add e1 e2 (by rw [e]; decide) h3
  rwa [e] at e3
theorem quar_flat (h : Quar x y A B) (hc : IsW c C) (hd : IsW d D) {q : Nat} (hq : SquareR x y q) : flatB x y c d q = false := by
  have e := quar_square h hq
  have hs := h.sm
  unfold flatB
  rw [finB_num hs.1.1.1, finB_num hs.2.1.1, finB_num hc.1, finB_num hd.1, infB_iff e.1.nan, finB_num e.1, feq_isW e isW_zero]
  rfl
theorem quar_by (h : Quar x y A B) (hb : ByR 4607182418800017408 0 x y u v) : Sm 1 u A ∧ Sm 1 v (-B) := by
  obtain ⟨m, p, q, s, t, w, z, h0, h1, h2, h3, h4, h5, h6, h7, h8⟩ := hb
  have e0 := quar_square h h0
  have hs := h.sm
  have b1 := hs.1.2; have b2 := hs.2.2
  have e1 := isW_mul sm_one.1 hs.1.1 (by omega) h1
  have e2 := isW_mul isW_zero hs.2.1 (by omega) h2
  have e3 := isW_add e1 e2 (by omega) h3
  have e4 := isW_mul isW_zero hs.1.1 (by omega) h4
  have e5 := isW_mul sm_one.1 hs.2.1 (by omega) h5
  have e6 := isW_sub e4 e5 (by omega) h6
  rw [show 1 * A + 0 * B = A by omega] at e3
  rw [show 0 * A - 1 * B = -B by omega] at e6
  have n0 : key m ≠ 0 := by rw [e0.2]; have := U_pos; omega
  exact ⟨⟨isW_div e3.1 e0.1 (by rw [e3.2, e0.2, Int.one_mul]) n0 (by omega) h7, b1⟩, isW_div e6.1 e0.1 (by rw [e6.2, e0.2, Int.one_mul]) n0 (by omega) h8, by omega⟩
/-- What undoes it. -/
theorem quar_back {k : Nat} (hk : k ≤ 2 ^ 32) (h : Quar x y A B) (hc : Sm k c C) (hd : Sm k d D) {er : Int} (hb : BK x y c d er u v s t) : er = 0 ∧ Sm 1 u A ∧ Sm 1 v (-B) ∧ Sm (0 + 2 * (1 * k)) s (0 - (A * C - -B * D)) ∧ Sm (0 + 2 * (1 * k)) t (0 - (A * D + -B * C)) := by
  obtain ⟨q, hq, ⟨hf, -⟩ | ⟨-, rfl, h1, m, n, h2, h3⟩⟩ := hb
  · rw [quar_flat h hc.1 hd.1 hq] at hf; cases hf
  · have e1 := quar_by h h1
    have e2 := TimesR.sm e1.1 e1.2 hc hd (by omega) h2
    have e3 := MinusR.sm sm_zero sm_zero e2.1 e2.2 (by omega) h3
    exact ⟨rfl, e1.1, e1.2, e3.1, e3.2⟩
/-- .. exactly. -/
theorem quar_undone {k : Nat} (hk : k ≤ 2 ^ 32) (h : Quar x y A B) (hc : Sm k c C) (hd : Sm k d D) {er : Int} (hb : BK x y c d er u v s t) {z z' : Nat} {X Y : Int} (hz : Sm (2 ^ 31) z X) (hz' : Sm (2 ^ 31) z' Y)
    {r2 i2 : Nat} (h1 : ApplyR x y c d z z' r i) (h2 : ApplyR u v s t r i r2 i2) : feq r2 z = true ∧ feq i2 z' = true := by
  have hs := h.sm
  obtain ⟨_, e1, e2, e3, e4⟩ := quar_back hk h hc hd hb
  have k1 := ApplyR.sm hs.1 hs.2 hc hd hz hz' (by omega) h1
  have k2 := ApplyR.sm e1 e2 e3 e4 k1.1 k1.2 (by omega) h2
  have q1 := k2.1.1
  have q2 := k2.2.1
  have w1 : A * (A * X - B * Y + C) - -B * (A * Y + B * X + D) + (0 - (A * C - -B * D)) = X := by
    rcases h.num with ⟨rfl, rfl⟩ | ⟨rfl, rfl⟩ | ⟨rfl, rfl⟩ | ⟨rfl, rfl⟩ <;> omega
  have w2 : A * (A * Y + B * X + D) + -B * (A * X - B * Y + C) + (0 - (A * D + -B * C)) = Y := by
    rcases h.num with ⟨rfl, rfl⟩ | ⟨rfl, rfl⟩ | ⟨rfl, rfl⟩ | ⟨rfl, rfl⟩ <;> omega
  rw [w1] at q1
  rw [w2] at q2
  exact ⟨feq_same q1 hz.1, feq_same q2 hz'.1⟩
/-- The lattice's bound. -/
def OnL (n : Int) : Prop := -1073741823 ≤ n ∧ n ≤ 1073741823
theorem near_isW {r : Nat} {N : Int} (h : IsW r N) : (nearE r = 0 → OnL N ∧ nearV r = N) ∧ (nearE r = 0 ∨ nearE r = 21) := by
  have hre : IsRE (key r) N := by
    rw [h.2]
    have hU : (0 : Int) < U := by have := U_pos; omega
    unfold IsRE
    refine ⟨by omega, by omega, fun c => by omega, fun c => by omega⟩
  have e := near_re h.1.nan h.1 hre
  unfold OnL
  rw [e.1, e.2]
  split <;> simp <;> omega
/-- Where a point is placed, where it is. -/
theorem quar_place {k : Nat} (hk : k ≤ 2 ^ 32) (h : Quar x y A B) (hc : Sm k c C) (hd : Sm k d D) {m n : Int} (hm : m.natAbs ≤ 2 ^ 31) (hn : n.natAbs ≤ 2 ^ 31) (h1 : ApplyR x y c d (fl m) (fl n) r i) (h0 : placeE r i = 0) :
    placeX r i = A * m - B * n + C ∧ placeY r i = A * n + B * m + D ∧ OnL (A * m - B * n + C) ∧ OnL (A * n + B * m + D) := by
  have hs := h.sm
  have k1 := ApplyR.sm hs.1 hs.2 hc hd (Sm.fl hm (by decide)) (Sm.fl hn (by decide)) (by omega) h1
  have e1 := near_isW k1.1.1
  have e2 := near_isW k1.2.1
  have z1 : nearE r = 0 := by
    unfold placeE at h0
    rcases e1.2 with z | z
    · exact z
    · rw [z, if_neg (by omega)] at h0; omega
  have z2 : nearE i = 0 := by
    unfold placeE at h0
    rw [if_pos z1] at h0
    exact h0
  unfold placeX placeY
  rw [if_pos h0, if_pos h0, (e1.1 z1).2, (e2.1 z2).2]
  exact ⟨rfl, rfl, (e1.1 z1).1, (e2.1 z2).1⟩
/-- A quotient of ways, one a quarter of the other. -/
theorem quar_quo (h : Quar x y A B) {w : Int} (hw : w.natAbs ≤ 2 ^ 33) (h0 : w ≠ 0) (up : Bool) {m n m2 n2 : Int} (hm : m = if up then 0 else w) (hn : n = if up then w else 0) (hm2 : m2 = A * m - B * n) (hn2 : n2 = A * n + B * m)
    (hb : ByR (fl m2) (fl n2) (fl m) (fl n) u v) : IsW u A ∧ IsW v B := by
  obtain ⟨d, p, q, s, t, f, z, ⟨g, j, g1, g2, g3⟩, h1, h2, h3, h4, h5, h6, h7, h8⟩ := hb
  have ha : A = 1 ∨ A = 0 ∨ A = -1 := by rcases h.num with ⟨rfl, rfl⟩ | ⟨rfl, rfl⟩ | ⟨rfl, rfl⟩ | ⟨rfl, rfl⟩ <;> simp
  have hbb : B = 1 ∨ B = 0 ∨ B = -1 := by rcases h.num with ⟨rfl, rfl⟩ | ⟨rfl, rfl⟩ | ⟨rfl, rfl⟩ | ⟨rfl, rfl⟩ <;> simp
  have ha1 : A.natAbs ≤ 2 ^ 53 := by omega
  have hb1 : B.natAbs ≤ 2 ^ 53 := by omega
  cases up
  · rw [if_neg (by decide)] at hm hn
    subst hm hn
    rw [show A * m - B * 0 = A * m by omega] at hm2
    rw [show A * 0 + B * m = B * m by omega] at hn2
    subst hm2 hn2
    have hsq := sq_num hw h0 g1
    have e1 := sq_pm hw h0 ha g1 h1
    have e4 := sq_pm hw h0 hbb g1 h4
    have hA := (isW_fl (n := A * m) (by rcases ha with rfl | rfl | rfl <;> omega)).1
    have hB := (isW_fl (n := B * m) (by rcases hbb with rfl | rfl | rfl <;> omega)).1
    have hz := (isW_fl (n := 0) (by decide)).1
    have eg := mul_fl_zero hz g2
    have ed := add_nought hsq.1 eg.1 eg.2 g3
    have e2 := mul_fl_zero hB h2
    have e3 := add_nought e1.1 e2.1 e2.2 h3
    have e5 := mul_fl_zero hA h5
    have e6 := sub_nought e4.1 e5.1 e5.2 h6
    have n0 : key d ≠ 0 := by rw [ed.2]; omega
    exact ⟨isW_div e3.1 ed.1 (by rw [e3.2, ed.2, e1.2]) n0 ha1 h7, isW_div e6.1 ed.1 (by rw [e6.2, ed.2, e4.2]) n0 hb1 h8⟩
  · rw [if_pos rfl] at hm hn
    subst hm hn
    rw [show A * 0 - B * n = -B * n by rw [Int.neg_mul]; omega] at hm2
    rw [show A * n + B * 0 = A * n by omega] at hn2
    subst hm2 hn2
    have hsq := sq_num hw h0 g2
    have hbb' : -B = 1 ∨ -B = 0 ∨ -B = -1 := by omega
    have e2 := sq_pm hw h0 ha g2 h2
    have e5 := sq_pm hw h0 hbb' g2 h5
    have hA := (isW_fl (n := A * n) (by rcases ha with rfl | rfl | rfl <;> omega)).1
    have hB := (isW_fl (n := -B * n) (by rcases hbb with rfl | rfl | rfl <;> omega)).1
    have hz := (isW_fl (n := 0) (by decide)).1
    have eg := mul_fl_zero hz g1
    have ed := nought_add eg.1 hsq.1 eg.2 g3
    have e1 := mul_fl_zero hB h1
    have e3 := nought_add e1.1 e2.1 e1.2 h3
    have e4 := mul_fl_zero hA h4
    have e6 := nought_sub e4.1 e5.1 e4.2 h6
    have n0 : key d ≠ 0 := by rw [ed.2]; omega
    exact ⟨isW_div e3.1 ed.1 (by rw [e3.2, ed.2, e2.2]) n0 ha1 h7, isW_div e6.1 ed.1 (by rw [e6.2, ed.2, e5.2, Int.neg_mul, Int.neg_neg]) n0 hb1 h8⟩
/-- Two points side by side find the similarity again. -/
theorem quar_again {k : Nat} (h : Quar x y A B) (hc : Sm k c C) (hd : Sm k d D) {px py far : Int} (hx : OnL px) (hy : OnL py) (hf : OnL far) (up : Bool) {qx qy rx ry sx sy : Int} (hqx : qx = if up then px else far) (hqy : qy = if up then far else py)
    (hne : ¬ (qx = px ∧ qy = py)) (h1 : rx = A * px - B * py + C) (h2 : ry = A * py + B * px + D) (h3 : sx = A * qx - B * qy + C) (h4 : sy = A * qy + B * qx + D) (l1 : OnL rx) (l2 : OnL ry)
    {er : Int} {u' v' s' t' : Nat} (hfit : FitOut px py qx qy rx ry sx sy er u' v' s' t') : er = 0 ∧ mapB u' v' s' t' x y c d = true := by
  have hs := h.sm
  unfold OnL at *
  rcases hfit with ⟨hc', -⟩ | ⟨-, rfl, hb, p, q, h5, h6⟩
  · exact absurd ⟨hc'.1.symm, hc'.2.symm⟩ hne
  · obtain ⟨w, hw⟩ : ∃ w, w = (if up then far - py else far - px) := ⟨_, rfl⟩
    have hw1 : w.natAbs ≤ 2 ^ 33 := by rw [hw]; split <;> omega
    have hw0 : w ≠ 0 := by
      intro e
      rw [e] at hw
      refine hne ?_
      cases up
      · rw [if_neg (by decide)] at hw hqx hqy; omega
      · rw [if_pos rfl] at hw hqx hqy; omega
    have hm : qx - px = if up then 0 else w := by
      cases up
      · rw [if_neg (by decide)] at hw hqx ⊢; omega
      · rw [if_pos rfl] at hqx ⊢; omega
    have hn : qy - py = if up then w else 0 := by
      cases up
      · rw [if_neg (by decide)] at hqy ⊢; omega
      · rw [if_pos rfl] at hw hqy ⊢; omega
    have hm2 : sx - rx = A * (qx - px) - B * (qy - py) := by rw [h3, h1, Int.mul_sub, Int.mul_sub]; omega
    have hn2 : sy - ry = A * (qy - py) + B * (qx - px) := by rw [h4, h2, Int.mul_sub, Int.mul_sub]; omega
    have e := quar_quo h hw1 hw0 up hm hn hm2 hn2 hb
    have e1 : Sm 1 u' A := ⟨e.1, hs.1.2⟩
    have e2 : Sm 1 v' B := ⟨e.2, hs.2.2⟩
    have e3 := TimesR.sm e1 e2 (Sm.fl (k := 2 ^ 31) (n := px) (by omega) (by decide)) (Sm.fl (k := 2 ^ 31) (n := py) (by omega) (by decide)) (by omega) h5
    have e4 := MinusR.sm (Sm.fl (k := 2 ^ 31) (n := rx) (by omega) (by decide)) (Sm.fl (k := 2 ^ 31) (n := ry) (by omega) (by decide)) e3.1 e3.2 (by omega) h6
    have q1 := e4.1.1
    have q2 := e4.2.1
    rw [show rx - (A * px - B * py) = C by omega] at q1
    rw [show ry - (A * py + B * px) = D by omega] at q2
    exact ⟨rfl, mapB_isW e.1 e.2 q1 q2 hs.1.1 hs.2.1 hc.1 hd.1⟩
end
end Go.Proofs.Ytkbcdfniocmamaa
