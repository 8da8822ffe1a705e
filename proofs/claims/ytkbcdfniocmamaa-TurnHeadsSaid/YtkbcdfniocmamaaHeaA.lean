/-
  Plainly: a heading is nearly as long as 1, and points into the sector of the way.
-/
import Derived.Test.YtkbcdfniocmamaaFloU
import Derived.Test.YtkbcdfniocmamaaMapR
import Derived.Test.YtkbcdfniocmamaaMapH
namespace Flo
open Ieee
theorem mid_fl {n : Int} (h : n.natAbs ≤ 2 ^ 33) : Mid (fl n) ∧ (key (fl n)).natAbs = n.natAbs * U := by
  have hw := isW_fl (n := n) (by omega)
  have hk : (key (fl n)).natAbs = n.natAbs * U := by rw [hw.2, mul_U_abs]
  have hWW : 2 ^ 33 ≤ WW := by unfold WW wB; exact Nat.pow_le_pow_right (by omega) (by omega)
  refine ⟨⟨hw.1, fun h0 => ?_, ?_⟩, hk⟩
  · have hn : 1 ≤ n.natAbs := by
      rcases Nat.eq_zero_or_pos n.natAbs with c | c
      · rw [c, Nat.zero_mul] at hk; omega
      · exact c
    rw [hk]
    have h1 : 1 ≤ n.natAbs * WW := Nat.mul_pos hn (by omega)
    calc U = 1 * U := (Nat.one_mul _).symm
      _ ≤ n.natAbs * WW * U := Nat.mul_le_mul_right _ h1
      _ = n.natAbs * U * WW := by rw [Nat.mul_right_comm]
  · rw [hk, Nat.mul_comm]
    exact Nat.mul_le_mul_left _ (by omega)
/-- Where the size lies between bounds it is neither great nor small. -/
theorem mid_of {x : Nat} (h : Num x) {k : Nat} (hk : k ≤ 2 ^ 80) (h1 : key x ≠ 0 → U ≤ (key x).natAbs * k) (h2 : (key x).natAbs ≤ U * k) : Mid x := by
  have hWW : 2 ^ 80 ≤ WW := by unfold WW wB; exact Nat.pow_le_pow_right (by omega) (by omega)
  exact ⟨h, fun h0 => Nat.le_trans (h1 h0) (Nat.mul_le_mul_left _ (by omega)), Nat.le_trans h2 (Nat.mul_le_mul_left _ (by omega))⟩
theorem log_of {V : Nat} (h : V ≤ 2 ^ 90 * U) : V.log2 ≤ 2096 := by
  refine mid_log (k := 90 + uExp) ?_ (by unfold uExp; omega)
  rw [Nat.pow_add, show 2 ^ uExp = U from rfl]
  exact h
end Flo
namespace Go.Proofs.Ytkbcdfniocmamaa
open Flo
/-- The size of a heading's part beside the length. -/
structure HeadN (x y X Y L : Nat) : Prop where
  h1 : Near 2 (X * L) (x * U * U)
  h2 : Near 2 (Y * L) (y * U * U)
  h3 : Near 5 (L * L) ((x * x + y * y) * U * U)
  lo : U ≤ 2 * L
  hi : L ≤ 2 ^ 35 * U
theorem part_mid {x X L : Nat} {r : Nat} (hn : Num r) (hX : X = (key r).natAbs) (hx : x ≤ 2 ^ 33) (h : Near 2 (X * L) (x * U * U)) (lo : U ≤ 2 * L) (hi : L ≤ 2 ^ 35 * U) : Mid r := by
  have hU := U_pos
  have ht := (h.mono (show 2 ≤ 12 by omega)).two
  have hL : 0 < L := by omega
  refine mid_of hn (k := 2 ^ 40) (by omega) (fun h0 => ?_) ?_
  · have hx1 : 1 ≤ x := by
      rcases Nat.eq_zero_or_pos x with c | c
      · rw [c, Nat.zero_mul, Nat.zero_mul, Nat.mul_zero] at ht
        have : X * L = 0 := by omega
        rcases Nat.mul_eq_zero.1 this with c2 | c2
        · omega
        · omega
      · exact c
    rw [← hX]
    have a1 : U * U ≤ x * U * U := by rw [Nat.mul_assoc]; exact Nat.le_mul_of_pos_left _ hx1
    have a2 : X * L ≤ X * (2 ^ 35 * U) := Nat.mul_le_mul_left _ hi
    have a3 : U * U ≤ X * 2 ^ 36 * U := by
      have : 2 * (X * (2 ^ 35 * U)) = X * 2 ^ 36 * U := by rw [← Nat.mul_assoc X, ← Nat.mul_assoc 2, Nat.mul_left_comm 2 X]
      omega
    have a4 := Nat.le_of_mul_le_mul_right a3 hU
    exact Nat.le_trans a4 (Nat.mul_le_mul_left _ (by omega))
  · rw [← hX]
    have a1 : X * U ≤ X * (2 * L) := Nat.mul_le_mul_left _ lo
    have a2 : X * U ≤ 4 * x * U * U := by
      have e1 : X * (2 * L) = 2 * (X * L) := Nat.mul_left_comm _ _ _
      have e2 : 4 * x * U * U = 2 * (2 * (x * U * U)) := by rw [Nat.mul_assoc 4, Nat.mul_assoc 4]; omega
      omega
    have a3 := Nat.le_of_mul_le_mul_right a2 hU
    have a4 : 4 * x * U ≤ 2 ^ 40 * U := Nat.mul_le_mul_right _ (by omega)
    rw [Nat.mul_comm U]
    omega
theorem head_near {m n : Int} {r i : Nat} (hm : m.natAbs ≤ 2 ^ 33) (hn : n.natAbs ≤ 2 ^ 33) (h0 : ¬ (m = 0 ∧ n = 0)) (h : HeadR m n r i) :
    ∃ l, 0 < key l ∧ Num l ∧ Gives (Ieee.double.div (fl m) l) r ∧ Gives (Ieee.double.div (fl n) l) i ∧ Num r ∧ Num i ∧ Mid r ∧ Mid i ∧ HeadN m.natAbs n.natAbs (key r).natAbs (key i).natAbs (key l).natAbs := by
  obtain ⟨l, ⟨q, ⟨a, b, g1, g2, g3⟩, g4⟩, g5, g6⟩ := h
  have hU := U_pos
  obtain ⟨mm, km⟩ := mid_fl hm
  obtain ⟨mn, kn⟩ := mid_fl hn
  obtain ⟨x, hx⟩ : ∃ x, x = m.natAbs := ⟨_, rfl⟩
  obtain ⟨y, hy⟩ : ∃ y, y = n.natAbs := ⟨_, rfl⟩
  rw [← hx] at km hm ⊢
  rw [← hy] at kn hn ⊢
  have hpos : 1 ≤ x * x + y * y := by
    have hxy : 1 ≤ x ∨ 1 ≤ y := by omega
    rcases hxy with c | c
    · have := Nat.mul_le_mul c c; omega
    · have := Nat.mul_le_mul c c; omega
  have hbig : x * x + y * y ≤ 2 ^ 67 := by
    have a1 := Nat.mul_le_mul hm hm
    have a2 := Nat.mul_le_mul hn hn
    omega
  -- the squares
  have ha := mul_near mm mm g1
  have hb := mul_near mn mn g2
  have na : Near 1 (key a).natAbs (x * x * U) := by
    refine Near.cancel hU ?_
    have := ha.2
    rw [km] at this
    rw [show x * x * U * U = x * U * (x * U) by rw [Nat.mul_mul_mul_comm, Nat.mul_assoc (x * x)]]
    exact this
  have nb : Near 1 (key b).natAbs (y * y * U) := by
    refine Near.cancel hU ?_
    have := hb.2
    rw [kn] at this
    rw [show y * y * U * U = y * U * (y * U) by rw [Nat.mul_mul_mul_comm, Nat.mul_assoc (y * y)]]
    exact this
  have sa := mul_self_nn mm.1 g1
  have sb := mul_self_nn mn.1 g2
  have nab : Near 1 ((key a).natAbs + (key b).natAbs) ((x * x + y * y) * U) := by
    rw [Nat.add_mul]
    exact na.add nb
  have tab := (nab.mono (show 1 ≤ 12 by omega)).two
  have hNU : (x * x + y * y) * U ≤ 2 ^ 67 * U := Nat.mul_le_mul_right _ hbig
  have hUN : U ≤ (x * x + y * y) * U := Nat.le_mul_of_pos_left _ hpos
  obtain ⟨N, hN⟩ : ∃ N, N = x * x + y * y := ⟨_, rfl⟩
  rw [← hN] at nab tab hNU hUN hpos hbig
  have hq := add_near ha.1 hb.1 sa sb (log_of (by
    have : 2 * (2 ^ 67 * U) ≤ 2 ^ 90 * U := by rw [← Nat.mul_assoc]; exact Nat.mul_le_mul_right _ (by omega)
    omega)) g3
  have nq : Near 2 (key q).natAbs (N * U) := hq.2.2.trans nab
  have tq := (nq.mono (show 2 ≤ 12 by omega)).two
  have q0 : 0 < key q := by
    have := hq.2.1
    omega
  have mq : Mid q := by
    refine mid_of hq.1 (k := 2 ^ 70) (by omega) (fun _ => ?_) ?_
    · have : (key q).natAbs * 2 ≤ (key q).natAbs * 2 ^ 70 := Nat.mul_le_mul_left _ (by omega)
      omega
    · have : 2 ^ 68 * U ≤ 2 ^ 70 * U := Nat.mul_le_mul_right _ (by omega)
      have : 2 * (2 ^ 67 * U) = 2 ^ 68 * U := by rw [← Nat.mul_assoc]
      rw [Nat.mul_comm U]
      omega
  -- the length
  have hl := sqrt_near mq q0 g4
  have nl : Near 5 ((key l).natAbs * (key l).natAbs) (N * U * U) := hl.2.2.trans (nq.scale U)
  have tl := (nl.mono (show 5 ≤ 12 by omega)).two
  obtain ⟨L, hL⟩ : ∃ L, L = (key l).natAbs := ⟨_, rfl⟩
  rw [← hL] at nl tl
  have lo : U ≤ 2 * L := by
    rcases Nat.lt_or_ge (2 * L) U with c | c
    · exfalso
      have a1 : 2 * L * (2 * L) < U * U := Nat.mul_lt_mul_of_lt_of_le c (Nat.le_of_lt c) (by omega)
      have a2 : U * U ≤ N * U * U := Nat.mul_le_mul_right _ hUN
      rw [Nat.mul_mul_mul_comm] at a1
      omega
    · exact c
  have hi : L ≤ 2 ^ 35 * U := by
    rcases Nat.lt_or_ge (2 ^ 35 * U) L with c | c
    · exfalso
      have a1 : 2 ^ 35 * U * (2 ^ 35 * U) < L * L := Nat.mul_lt_mul_of_lt_of_le c (Nat.le_of_lt c) (by omega)
      have a2 : N * U * U ≤ 2 ^ 67 * U * U := Nat.mul_le_mul_right _ hNU
      have a3 : 2 * (2 ^ 67 * U * U) ≤ 2 ^ 35 * U * (2 ^ 35 * U) := by
        rw [Nat.mul_mul_mul_comm, Nat.mul_assoc (2 ^ 67), ← Nat.mul_assoc 2]
        exact Nat.mul_le_mul_right _ (by omega)
      omega
    · exact c
  have l0 : 0 < key l := by
    have := hl.2.1
    omega
  have ml : Mid l := by
    refine mid_of hl.1 (k := 2 ^ 40) (by omega) (fun _ => ?_) ?_
    · rw [← hL]
      have : L * 2 ≤ L * 2 ^ 40 := Nat.mul_le_mul_left _ (by omega)
      omega
    · rw [← hL, Nat.mul_comm U]
      exact Nat.le_trans hi (Nat.mul_le_mul_right _ (by omega))
  have hr := div_near mm ml (by omega) g5
  have hi' := div_near mn ml (by omega) g6
  rw [km, ← hL] at hr
  rw [kn, ← hL] at hi'
  have hH : HeadN x y (key r).natAbs (key i).natAbs (key l).natAbs := by rw [← hL]; exact ⟨hr.2, hi'.2, by rw [hN] at nl; exact nl, lo, hi⟩
  exact ⟨l, l0, hl.1, g5, g6, hr.1, hi'.1, part_mid hr.1 rfl hm hr.2 lo hi, part_mid hi'.1 rfl hn hi'.2 lo hi, hH⟩
/-- Its length is nearly 1. -/
theorem head_long {x y X Y L : Nat} (h : HeadN x y X Y L) {C D T : Nat} (hC : Near 1 (C * U) (X * X)) (hD : Near 1 (D * U) (Y * Y)) (hT : Near 1 T (C + D)) : Near 11 T U := by
  have hU := U_pos
  have hL : 0 < L := by have := h.lo; omega
  have part : ∀ {z Z E : Nat}, Near 2 (Z * L) (z * U * U) → Near 1 (E * U) (Z * Z) → Near 5 (E * (L * L)) (z * z * (U * U * U)) := by
    intro z Z E h1 h2
    have k1 : Near 4 (Z * L * (Z * L)) (z * U * U * (z * U * U)) := h1.mul h1
    have k2 : Near 1 (E * U * (L * L)) (Z * Z * (L * L)) := h2.scale _
    rw [show Z * L * (Z * L) = Z * Z * (L * L) from Nat.mul_mul_mul_comm _ _ _ _] at k1
    have k3 : Near 5 (E * U * (L * L)) (z * U * U * (z * U * U)) := k2.trans k1
    refine Near.cancel hU ?_
    rw [Nat.mul_right_comm E (L * L) U]
    rw [show z * z * (U * U * U) * U = z * U * U * (z * U * U) by
      rw [Nat.mul_assoc z U U, Nat.mul_mul_mul_comm z (U * U), Nat.mul_assoc (z * z), Nat.mul_assoc (U * U) U U]]
    exact k3
  have p1 := part h.h1 hC
  have p2 := part h.h2 hD
  have p3 : Near 5 ((C + D) * (L * L)) ((x * x + y * y) * (U * U * U)) := by
    rw [Nat.add_mul, Nat.add_mul]
    exact p1.add p2
  have p4 : Near 6 (T * (L * L)) ((x * x + y * y) * (U * U * U)) := (hT.scale (L * L)).trans p3
  have p5 : Near 5 (U * (L * L)) ((x * x + y * y) * (U * U * U)) := by
    have := h.h3.scale U
    rw [Nat.mul_comm U]
    rw [show (x * x + y * y) * (U * U * U) = (x * x + y * y) * U * U * U by rw [Nat.mul_assoc (x * x + y * y) U U, Nat.mul_assoc (x * x + y * y)]]
    exact this
  exact Near.cancel (Nat.mul_pos hL hL) (p4.trans p5.symm)
def tinyE : Nat := 974
def tinyK : Nat := 2 ^ 52 * 2 ^ tinyE
theorem tiny_U : U = tinyK * 2 ^ 48 := by
  have a1 := pow_split (a := uExp) (b := 52 + tinyE) (c := 48) rfl
  rw [pow_split (a := 52 + tinyE) (b := 52) (c := tinyE) rfl] at a1
  unfold U tinyK
  exact a1
/-- 1 / 2^48. -/
theorem key_tiny : key 4391009636686233600 * 2 ^ 48 = U ∧ isNaN 4391009636686233600 = false := by
  have hr : Ieee.double.read 4391009636686233600 = .number false (2 ^ 52) (-100) := by decide
  refine ⟨?_, by unfold isNaN; rw [hr]; rfl⟩
  have hk : key 4391009636686233600 = (tinyK : Int) := by
    unfold key
    rw [hr, key_num, signed_eq, if_neg (by decide), Int.one_mul, show ((-100 : Int) + 1074).toNat = tinyE from rfl]
    rfl
  rw [hk, tiny_U]
  omega
theorem heading_long {m n : Int} {r i : Nat} (hm : m.natAbs ≤ 2 ^ 33) (hn : n.natAbs ≤ 2 ^ 33) (h0 : ¬ (m = 0 ∧ n = 0)) (h : HeadR m n r i) {c d t u : Nat} (hc : Gives (Ieee.double.mul r r) c) (hd : Gives (Ieee.double.mul i i) d) (ht : Gives (Ieee.double.add c d) t) (hu : Gives (Ieee.double.sub t 4607182418800017408) u) :
    fle (u % 2 ^ 63) 4391009636686233600 = true := by
  obtain ⟨l, l0, nl, g5, g6, nr, ni, mr, mi, hN⟩ := head_near hm hn h0 h
  have hU := U_pos
  have kc := mul_near mr mr hc
  have kd := mul_near mi mi hd
  have sc := mul_self_nn nr hc
  have sd := mul_self_nn ni hd
  -- bounds of the parts, from the ratio with the length
  have cd : (key c).natAbs + (key d).natAbs ≤ 2 ^ 90 * U := by
    have b : ∀ {z r c : Nat}, z ≤ 2 ^ 33 → Near 2 ((key r).natAbs * (key l).natAbs) (z * U * U) → Near 1 ((key c).natAbs * U) ((key r).natAbs * (key r).natAbs) → (key c).natAbs ≤ 2 ^ 85 * U := by
      intro z r c hz h1 h2
      have t1 := (h1.mono (show 2 ≤ 12 by omega)).two.1
      have t2 := (h2.mono (show 1 ≤ 12 by omega)).two.1
      have lo := hN.lo
      generalize (key r).natAbs = R at *
      generalize (key l).natAbs = L at *
      generalize (key c).natAbs = C at *
      have a1 : R * U ≤ R * (2 * L) := Nat.mul_le_mul_left _ lo
      have a2 : R * U ≤ 2 ^ 35 * U * U := by
        have e1 : R * (2 * L) = 2 * (R * L) := Nat.mul_left_comm _ _ _
        have e2 : z * U * U ≤ 2 ^ 33 * U * U := Nat.mul_le_mul_right _ (Nat.mul_le_mul_right _ hz)
        have e3 : 4 * (2 ^ 33 * U * U) = 2 ^ 35 * U * U := by rw [← Nat.mul_assoc, ← Nat.mul_assoc]
        omega
      have a3 := Nat.le_of_mul_le_mul_right a2 hU
      have a4 : C * U ≤ 2 ^ 85 * U * U := by
        have e1 := Nat.mul_le_mul a3 a3
        have e2 : 2 * (2 ^ 35 * U * (2 ^ 35 * U)) ≤ 2 ^ 85 * U * U := by
          rw [Nat.mul_mul_mul_comm, Nat.mul_assoc (2 ^ 85), ← Nat.mul_assoc 2]
          exact Nat.mul_le_mul_right _ (by omega)
        omega
      exact Nat.le_of_mul_le_mul_right a4 hU
    have b1 := b hm hN.h1 kc.2
    have b2 := b hn hN.h2 kd.2
    have : 2 ^ 85 * U + 2 ^ 85 * U ≤ 2 ^ 90 * U := by rw [← Nat.add_mul]; exact Nat.mul_le_mul_right _ (by omega)
    omega
  have kt := add_near kc.1 kd.1 sc sd (log_of cd) ht
  have h11 := head_long hN kc.2 kd.2 kt.2.2
  obtain ⟨e1, e2⟩ := h11.eleven
  have hone : IsW 4607182418800017408 1 := by rw [show 4607182418800017408 = fl 1 by kernel_rfl]; exact isW_fl (by decide)
  have hkone : key 4607182418800017408 = U := by rw [hone.2]; omega
  obtain ⟨z, m', e, he, hr, hv, -⟩ := diff_written kt.1 hone.1 hu
  rw [hkone] at hv
  have hVb : 2 ^ 52 * (key t - U).natAbs ≤ 12 * U := by have := kt.2.1; omega
  have nu := near_round z m' e he _ hv (log_of (by
    have : U ≤ 2 ^ 90 * U := Nat.le_mul_of_pos_left _ (by omega)
    omega))
  rw [← hr] at nu
  have hle : 2 ^ 48 * (key u).natAbs ≤ U := by
    have := nu.1
    rw [Nat.pow_one, Nat.pow_one] at this
    unfold PP SS at this
    omega
  have hun : isNaN u = false := by rw [hr]; exact nan_nearest _ _ _
  rw [fle_iff (by rw [nan_mod]; exact hun) key_tiny.2, key_mod]
  have kk := key_tiny.1
  refine decide_eq_true ?_
  omega
end Go.Proofs.Ytkbcdfniocmamaa
