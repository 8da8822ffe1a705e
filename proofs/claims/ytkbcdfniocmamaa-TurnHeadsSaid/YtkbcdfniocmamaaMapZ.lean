/-
  Plainly: similarities whose parts are whole are joined and led on exactly.
-/
import Derived.Test.YtkbcdfniocmamaaFloS
import Derived.Test.YtkbcdfniocmamaaMapA
import Derived.Test.YtkbcdfniocmamaaMapE
import Derived.Test.YtkbcdfniocmamaaMapG
namespace Go.Proofs.Ytkbcdfniocmamaa
open Flo

/-- It stands for n, which is of a size of at most b. -/
def Sm (b x : Nat) (n : Int) : Prop := IsW x n ∧ n.natAbs ≤ b
theorem mul_abs_le {a b : Int} {m n : Nat} (ha : a.natAbs ≤ m) (hb : b.natAbs ≤ n) : (a * b).natAbs ≤ m * n := by
  rw [Int.natAbs_mul]; exact Nat.mul_le_mul ha hb
section
variable {k l a b c d r i : Nat} {A B C D : Int}
theorem Sm.mono (h : Sm k a A) (hk : k ≤ l) : Sm l a A := ⟨h.1, Nat.le_trans h.2 hk⟩
theorem TimesR.sm (ha : Sm k a A) (hb : Sm k b B) (hc : Sm l c C) (hd : Sm l d D) (hk : 2 * (k * l) ≤ 2 ^ 53) (h : TimesR a b c d r i) : Sm (2 * (k * l)) r (A * C - B * D) ∧ Sm (2 * (k * l)) i (A * D + B * C) := by
  obtain ⟨s, t, u, v, h1, h2, h5, h3, h4, h6⟩ := h
  have b1 := mul_abs_le ha.2 hc.2
  have b2 := mul_abs_le hb.2 hd.2
  have b3 := mul_abs_le ha.2 hd.2
  have b4 := mul_abs_le hb.2 hc.2
  have e1 := isW_mul ha.1 hc.1 (by omega) h1
  have e2 := isW_mul hb.1 hd.1 (by omega) h2
  have e3 := isW_mul ha.1 hd.1 (by omega) h3
  have e4 := isW_mul hb.1 hc.1 (by omega) h4
  exact ⟨⟨isW_sub e1 e2 (by omega) h5, by omega⟩, isW_add e3 e4 (by omega) h6, by omega⟩
theorem PlusR.sm (ha : Sm k a A) (hb : Sm k b B) (hc : Sm l c C) (hd : Sm l d D) (hk : k + l ≤ 2 ^ 53) (h : PlusR a b c d r i) : Sm (k + l) r (A + C) ∧ Sm (k + l) i (B + D) := by
  have := ha.2; have := hb.2; have := hc.2; have := hd.2
  exact ⟨⟨isW_add ha.1 hc.1 (by omega) h.1, by omega⟩, isW_add hb.1 hd.1 (by omega) h.2, by omega⟩
theorem MinusR.sm (ha : Sm k a A) (hb : Sm k b B) (hc : Sm l c C) (hd : Sm l d D) (hk : k + l ≤ 2 ^ 53) (h : MinusR a b c d r i) : Sm (k + l) r (A - C) ∧ Sm (k + l) i (B - D) := by
  have := ha.2; have := hb.2; have := hc.2; have := hd.2
  exact ⟨⟨isW_sub ha.1 hc.1 (by omega) h.1, by omega⟩, isW_sub hb.1 hd.1 (by omega) h.2, by omega⟩
theorem ApplyR.sm {m p q z y : Nat} {P Q Z Y : Int} (ha : Sm k a A) (hb : Sm k b B) (hp : Sm m p P) (hq : Sm m q Q) (hz : Sm l z Z) (hy : Sm l y Y) (hk : 2 * (k * l) + m ≤ 2 ^ 53) (h : ApplyR a b p q z y r i) :
    Sm (2 * (k * l) + m) r (A * Z - B * Y + P) ∧ Sm (2 * (k * l) + m) i (A * Y + B * Z + Q) := by
  obtain ⟨s, t, h1, h2⟩ := h
  have e := TimesR.sm ha hb hz hy (by omega) h1
  exact PlusR.sm e.1 e.2 hp hq (by omega) h2
theorem ThenR.sm {m p q e f g j x y u v : Nat} {P Q E F G J : Int} (ha : Sm k a A) (hb : Sm k b B) (hp : Sm k p P) (hq : Sm k q Q) (he : Sm m e E) (hf : Sm m f F) (hg : Sm m g G) (hj : Sm m j J) (hk : 2 * (m * k) + m ≤ 2 ^ 53) (h : ThenR a b p q e f g j x y u v) :
    (Sm (2 * (m * k) + m) x (E * A - F * B) ∧ Sm (2 * (m * k) + m) y (E * B + F * A)) ∧ Sm (2 * (m * k) + m) u (E * P - F * Q + G) ∧ Sm (2 * (m * k) + m) v (E * Q + F * P + J) := by
  obtain ⟨h1, s, t, h2, h3⟩ := h
  have e1 := TimesR.sm he hf ha hb (by omega) h1
  have e2 := TimesR.sm he hf hp hq (by omega) h2
  have e3 := PlusR.sm e2.1 e2.2 hg hj (by omega) h3
  exact ⟨⟨e1.1.mono (by omega), e1.2.mono (by omega)⟩, e3⟩
end
theorem Sm.fl {k : Nat} {n : Int} (h : n.natAbs ≤ k) (hk : k ≤ 2 ^ 53) : Sm k (fl n) n := ⟨isW_fl (by omega), h⟩
theorem sm_one : Sm 1 4607182418800017408 1 := by rw [show 4607182418800017408 = Flo.fl 1 by kernel_rfl]; exact Sm.fl (by decide) (by decide)
theorem sm_zero : Sm 0 0 0 := ⟨isW_zero, by decide⟩
theorem sm_neg : Sm 1 13830554455654793216 (-1) := by rw [show 13830554455654793216 = Flo.fl (-1) by kernel_rfl]; exact Sm.fl (by decide) (by decide)
/-- Two similarities whose parts stand for the same are alike. -/
theorem mapB_isW {a b c d a' b' c' d' : Nat} {A B C D : Int} (ha : IsW a A) (hb : IsW b B) (hc : IsW c C) (hd : IsW d D) (ha' : IsW a' A) (hb' : IsW b' B) (hc' : IsW c' C) (hd' : IsW d' D) : mapB a b c d a' b' c' d' = true := by
  unfold mapB
  rw [alikeB_isW ha ha', alikeB_isW hb hb', alikeB_isW hc hc', alikeB_isW hd hd']
  rfl
section
variable {a b c d e f g h x y z t u v r i r' i' r2 i2 : Nat} {A B C D E F G H X Y : Int}
/-- Whole similarities are joined exactly. -/
theorem whole_join (ha : Sm 65536 a A) (hb : Sm 65536 b B) (hc : Sm 65536 c C) (hd : Sm 65536 d D) (he : Sm 65536 e E) (hf : Sm 65536 f F) (hg : Sm 65536 g G) (hh : Sm 65536 h H) (hz : Sm 65536 z X) (ht : Sm 65536 t Y)
    (h1 : ThenR a b c d e f g h x y u v) (h2 : ApplyR x y u v z t r i) (h3 : ApplyR a b c d z t r' i') (h4 : ApplyR e f g h r' i' r2 i2) : feq r r2 = true ∧ feq i i2 = true := by
  obtain ⟨⟨k1, k2⟩, k3, k4⟩ := ThenR.sm ha hb hc hd he hf hg hh (by omega) h1
  have k5 := ApplyR.sm k1 k2 k3 k4 hz ht (by omega) h2
  have k6 := ApplyR.sm ha hb hc hd hz ht (by omega) h3
  have k7 := ApplyR.sm he hf hg hh k6.1 k6.2 (by omega) h4
  have e1 : (E * A - F * B) * X - (E * B + F * A) * Y + (E * C - F * D + G) = E * (A * X - B * Y + C) - F * (A * Y + B * X + D) + G := by grind
  have e2 : (E * A - F * B) * Y + (E * B + F * A) * X + (E * D + F * C + H) = E * (A * Y + B * X + D) + F * (A * X - B * Y + C) + H := by grind
  have q1 := k5.1.1
  have q2 := k5.2.1
  rw [e1] at q1
  rw [e2] at q2
  exact ⟨feq_same q1 k7.1.1, feq_same q2 k7.2.1⟩
/-- With the unit nothing changes. -/
theorem unit_right (ha : Sm 65536 a A) (hb : Sm 65536 b B) (hc : Sm 65536 c C) (hd : Sm 65536 d D) (h1 : ThenR a b c d 4607182418800017408 0 0 0 x y u v) : mapB x y u v a b c d = true := by
  obtain ⟨⟨k1, k2⟩, k3, k4⟩ := ThenR.sm ha hb hc hd sm_one (sm_zero.mono (by omega)) (sm_zero.mono (by omega)) (sm_zero.mono (by omega)) (by omega) h1
  have q1 := k1.1; have q2 := k2.1; have q3 := k3.1; have q4 := k4.1
  rw [show (1 : Int) * A - 0 * B = A by omega] at q1
  rw [show (1 : Int) * B + 0 * A = B by omega] at q2
  rw [show (1 : Int) * C - 0 * D + 0 = C by omega] at q3
  rw [show (1 : Int) * D + 0 * C + 0 = D by omega] at q4
  exact mapB_isW q1 q2 q3 q4 ha.1 hb.1 hc.1 hd.1
theorem unit_left (ha : Sm 65536 a A) (hb : Sm 65536 b B) (hc : Sm 65536 c C) (hd : Sm 65536 d D) (h1 : ThenR 4607182418800017408 0 0 0 a b c d x y u v) : mapB x y u v a b c d = true := by
  obtain ⟨⟨k1, k2⟩, k3, k4⟩ := ThenR.sm sm_one (sm_zero.mono (by omega)) (sm_zero.mono (by omega)) (sm_zero.mono (by omega)) ha hb hc hd (by omega) h1
  have q1 := k1.1; have q2 := k2.1; have q3 := k3.1; have q4 := k4.1
  rw [show A * 1 - B * 0 = A by omega] at q1
  rw [show A * 0 + B * 1 = B by omega] at q2
  rw [show A * 0 - B * 0 + C = C by omega] at q3
  rw [show A * 0 + B * 0 + D = D by omega] at q4
  exact mapB_isW q1 q2 q3 q4 ha.1 hb.1 hc.1 hd.1
theorem unit_apply (hz : Sm 65536 z X) (ht : Sm 65536 t Y) (h1 : ApplyR 4607182418800017408 0 0 0 z t r i) : feq r z = true ∧ feq i t = true := by
  have k := ApplyR.sm sm_one (sm_zero.mono (by omega)) (sm_zero.mono (Nat.zero_le 0)) (sm_zero.mono (Nat.zero_le 0)) hz ht (by omega) h1
  have q1 := k.1.1
  have q2 := k.2.1
  rw [show (1 : Int) * X - 0 * Y + 0 = X by omega] at q1
  rw [show (1 : Int) * Y + 0 * X + 0 = Y by omega] at q2
  exact ⟨feq_same q1 hz.1, feq_same q2 ht.1⟩
end
end Go.Proofs.Ytkbcdfniocmamaa
