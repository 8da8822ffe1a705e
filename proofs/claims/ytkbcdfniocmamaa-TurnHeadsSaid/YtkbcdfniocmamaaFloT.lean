/-
  Floats, plainly: the square root of the square of a whole number is that number.
-/
import Derived.Test.YtkbcdfniocmamaaFloS
namespace Flo
open Ieee

theorem rootFrom_spec (n : Nat) : ∀ (todo root : Nat), root * root ≤ n → n < (root + 2 ^ todo) * (root + 2 ^ todo) →
    Datum.rootFrom n todo root * Datum.rootFrom n todo root ≤ n ∧ n < (Datum.rootFrom n todo root + 1) * (Datum.rootFrom n todo root + 1)
  | 0, root, h1, h2 => by
    unfold Datum.rootFrom
    exact ⟨h1, by simpa using h2⟩
  | todo + 1, root, h1, h2 => by
    unfold Datum.rootFrom
    simp only
    rw [Nat.shiftLeft_eq, Nat.one_mul]
    by_cases h : (root + 2 ^ todo) * (root + 2 ^ todo) ≤ n
    · rw [if_pos h]
      refine rootFrom_spec n todo _ h ?_
      rw [Nat.pow_succ] at h2
      rw [show root + 2 ^ todo + 2 ^ todo = root + 2 ^ todo * 2 by omega]
      exact h2
    · rw [if_neg h]
      exact rootFrom_spec n todo _ h1 (by omega)
/-- The whole root. -/
def wroot (n : Nat) : Nat := Datum.rootFrom n (n.log2 / 2 + 1) 0
theorem wroot_spec (n : Nat) : wroot n * wroot n ≤ n ∧ n < (wroot n + 1) * (wroot n + 1) := by
  refine rootFrom_spec n _ 0 (by simp) ?_
  rw [Nat.zero_add, ← Nat.pow_add]
  exact Nat.lt_of_lt_of_le Nat.lt_log2_self (Nat.pow_le_pow_right (by omega) (by omega))
theorem sqrt_form {x r : Nat} {m : Nat} {i : Int} (hx : double.read x = .number false m i) (hm : m ≠ 0) (h : Gives (double.sqrt x) r) :
    ∃ (more : Nat) (g : Int), m.log2 + more ≤ 109 ∧ 108 ≤ m.log2 + more ∧ i - more = 2 * g ∧
      r = double.nearest false (2 * wroot (m * 2 ^ more) + (wroot (m * 2 ^ more) * wroot (m * 2 ^ more) != m * 2 ^ more).toNat) (g - 1) := by
  have hl : m.log2 < 53 := (Nat.log2_lt hm).2 (read_num hx).2.1
  unfold Format.sqrt at h
  rw [hx] at h
  unfold Datum.root at h
  simp only at h
  rw [if_neg hm, show double.fractionBits + 2 = 54 from rfl] at h
  simp only [Bool.false_eq_true, if_false] at h
  obtain ⟨a, ha⟩ : ∃ a, a = 2 * 54 - m.log2 := ⟨_, rfl⟩
  rw [← ha] at h
  obtain ⟨b, hb⟩ : ∃ b, b = ((i - (a : Int)) % 2).toNat := ⟨_, rfl⟩
  rw [← hb] at h
  rw [Nat.shiftLeft_eq] at h
  refine ⟨a + b, (i - ((a + b : Nat) : Int)) / 2, by omega, by omega, by omega, ?_⟩
  exact h
theorem log_range {n p : Nat} (h1 : 2 ^ p ≤ n) (h2 : n < 2 ^ (p + 1)) : n.log2 = p := by
  have h0 : n ≠ 0 := by have := Nat.two_pow_pos p; omega
  have a := (Nat.le_log2 h0).2 h1
  have b := (Nat.log2_lt h0).2 h2
  omega
/-- Between the same two powers of four. -/
theorem four_eq {a b A : Nat} (h1 : 2 ^ (2 * a) ≤ A) (h2 : A < 2 ^ (2 * a + 2)) (h3 : 2 ^ (2 * b) ≤ A) (h4 : A < 2 ^ (2 * b + 2)) : a = b := by
  rcases Nat.lt_trichotomy a b with h | h | h
  · have := Nat.pow_le_pow_right (n := 2) (by omega) (show 2 * a + 2 ≤ 2 * b by omega); omega
  · exact h
  · have := Nat.pow_le_pow_right (n := 2) (by omega) (show 2 * b + 2 ≤ 2 * a by omega); omega
/-- The core: in units of the place of the whole root. -/
theorem root_near {n t G V : Nat} (hlo : 2 ^ 108 ≤ n) (hhi : n < 2 ^ 110) (ht : n = t * t ∨ ((t - 2) * (t - 2) < n ∧ 2 ≤ t ∧ n < (t + 2) * (t + 2))) (hV : 2 * V = (2 * wroot n + (wroot n * wroot n != n).toNat) * G) (hG : 0 < G) :
    2 * V < 2 * (t * G) + 4 * G ∧ 2 * (t * G) < 2 * V + 4 * G ∧ 2 ^ 54 * G ≤ V ∧ V < 2 ^ 55 * G := by
  obtain ⟨s1, s2⟩ := wroot_spec n
  obtain ⟨w, hw⟩ : ∃ w, w = wroot n := ⟨_, rfl⟩
  rw [← hw] at s1 s2 hV
  have w1 : 2 ^ 54 ≤ w := by
    rcases Nat.lt_or_ge w (2 ^ 54) with c | c
    · exfalso
      have := Nat.mul_le_mul (show w + 1 ≤ 2 ^ 54 by omega) (show w + 1 ≤ 2 ^ 54 by omega)
      omega
    · exact c
  have w2 : w < 2 ^ 55 := by
    rcases Nat.lt_or_ge w (2 ^ 55) with c | c
    · exact c
    · exfalso
      have := Nat.mul_le_mul c c
      omega
  obtain ⟨M, hM⟩ : ∃ M, M = 2 * w + (w * w != n).toNat := ⟨_, rfl⟩
  rw [← hM] at hV
  have hM1 : 2 * w ≤ M ∧ M ≤ 2 * w + 1 := by rw [hM]; have := Bool.toNat_le (w * w != n); omega
  have hMt : M < 2 * t + 4 ∧ 2 * t < M + 4 := by
    rcases ht with ht | ⟨ht1, ht0, ht2⟩
    · have : w = t := by
        rcases Nat.lt_trichotomy w t with c | c | c
        · have := Nat.mul_le_mul (show w + 1 ≤ t by omega) (show w + 1 ≤ t by omega); omega
        · exact c
        · have := Nat.mul_lt_mul_of_lt_of_le c (Nat.le_of_lt c) (by omega); omega
      omega
    · have a1 : w < t + 2 := by
        rcases Nat.lt_or_ge w (t + 2) with c | c
        · exact c
        · have := Nat.mul_le_mul c c; omega
      have a2 : t - 2 ≤ w := by
        rcases Nat.lt_or_ge w (t - 2) with c | c
        · have := Nat.mul_le_mul (show w + 1 ≤ t - 2 by omega) (show w + 1 ≤ t - 2 by omega); omega
        · exact c
      refine ⟨by omega, ?_⟩
      rcases Nat.lt_or_ge (t - 2) w with c | c
      · omega
      · have e : w = t - 2 := by omega
        have : (w * w != n) = true := by
          rw [bne_iff_ne]
          rw [e]; omega
        rw [this] at hM
        have : (true : Bool).toNat = 1 := rfl
        omega
  have k1 := Nat.mul_le_mul_right G (show M + 1 ≤ 2 * t + 4 by omega)
  have k2 := Nat.mul_le_mul_right G (show 2 * t + 1 ≤ M + 4 by omega)
  have k3 := Nat.mul_le_mul_right G hM1.1
  have k4 := Nat.mul_le_mul_right G hM1.2
  have k5 := Nat.mul_le_mul_right G w1
  have k6 := Nat.mul_le_mul_right G (show w + 1 ≤ 2 ^ 55 by omega)
  rw [Nat.add_mul, Nat.add_mul, Nat.mul_assoc] at k1
  rw [Nat.add_mul, Nat.add_mul, Nat.mul_assoc] at k2
  rw [Nat.mul_assoc] at k3
  rw [Nat.add_mul, Nat.mul_assoc] at k4
  rw [Nat.add_mul] at k6
  omega
/-- What is rounded to a multiple of its last place that lies less than half a place off. -/
theorem nearest_hit {M : Nat} {e : Int} {g : Nat} (he : -1074 ≤ e) (hM : M ≠ 0) {V T : Nat} (hV : V = M * 2 ^ (e + 1074).toNat) (h1 : 2 ^ (52 + g) ≤ V) (h2 : V < 2 ^ (53 + g)) (hg : g ≤ 2000) (hd : 2 ^ g ∣ T) (h3 : 2 * V < 2 * T + 2 ^ g) (h4 : 2 * T < 2 * V + 2 ^ g) :
    key (double.nearest false M e) = (T : Int) := by
  have hl : V.log2 = 52 + g := log_range h1 (by rw [show 52 + g + 1 = 53 + g by omega]; exact h2)
  obtain ⟨K, k1, -, -, k4, k5, -⟩ := round_spec false M e he hM V hV (by omega)
  rw [hl, show 52 + g - 52 = g by omega] at k1 k4 k5
  obtain ⟨c, rfl⟩ := hd
  have : K = c := by
    rcases Nat.lt_trichotomy K c with h | h | h
    · exfalso
      have := Nat.mul_le_mul_left (2 ^ g) h
      rw [Nat.mul_comm (2 ^ g) K.succ, Nat.succ_mul] at this
      omega
    · exact h
    · exfalso
      have := Nat.mul_le_mul_left (2 ^ g) h
      rw [Nat.mul_succ, Nat.mul_comm (2 ^ g) K] at this
      omega
  rw [k1, this, Nat.mul_comm]
  simp
theorem pow_split {a b c : Nat} (h : a = b + c) : 2 ^ a = 2 ^ b * 2 ^ c := by rw [h, Nat.pow_add]
/-- A whole number's square, rounded, in units of the least place. -/
theorem sq_round {N : Nat} (h1 : 1 ≤ N) (hN : N < 2 ^ 50) {x p : Nat} (hx : IsW x N) (hp : Gives (double.mul x x) p) :
    ∃ X L2 : Nat, key p = (X : Int) ∧ 2 ^ L2 ≤ N * N ∧ N * N < 2 ^ (L2 + 1) ∧ 2 * X ≤ 2 * (N * N * U) + 2 ^ (L2 + 1022) ∧ 2 * (N * N * U) ≤ 2 * X + 2 ^ (L2 + 1022) ∧ 2 ^ (L2 + 1074) ≤ X := by
  obtain ⟨s, m, e, hr⟩ := hx.1
  have hpl := whole_place hx (by omega) hr
  have hu := mul_units hr hr (by omega)
  have hm : m * m ≠ 0 := Nat.mul_ne_zero hpl.2 hpl.2
  have hU := U_pos
  have hV : m * m * 2 ^ (e + e + 1074).toNat = N * N * U := by
    refine Nat.eq_of_mul_eq_mul_right hU ?_
    rw [hu, hx.2, mul_U_abs, Int.natAbs_natCast, ← Nat.mul_assoc, Nat.mul_right_comm N U]
  have hNN : N * N ≠ 0 := Nat.mul_ne_zero (by omega) (by omega)
  obtain ⟨L2, hL2⟩ : ∃ L2, L2 = (N * N).log2 := ⟨_, rfl⟩
  have l1 : 2 ^ L2 ≤ N * N := by rw [hL2]; exact Nat.log2_self_le hNN
  have l2 : N * N < 2 ^ (L2 + 1) := by rw [hL2]; exact Nat.lt_log2_self
  have l3 : L2 < 100 := by
    rw [hL2, Nat.log2_lt hNN]
    have := Nat.mul_lt_mul_of_lt_of_le hN (Nat.le_of_lt hN) (by omega)
    omega
  obtain ⟨V, hVd⟩ : ∃ V, V = N * N * U := ⟨_, rfl⟩
  have hlog : V.log2 = L2 + 1074 := by
    rw [hVd, hL2, show U = 2 ^ uExp from rfl, log2_mul_pow _ _ hNN]
    rfl
  obtain ⟨K, k1, k2, k3, k4, k5, k6⟩ := round_spec false (m * m) (e + e) (by omega) hm V (by rw [hVd, hV]) (by omega)
  have ke : key p = ((K * 2 ^ (V.log2 - 52) : Nat) : Int) := by
    rw [mul_form hr hr hp, Bool.xor_self, k1]
    simp
  have hup : 2 ^ (L2 + 1074) ≤ V := by
    rw [← hlog]; exact Nat.log2_self_le (by rw [hVd]; exact Nat.mul_ne_zero hNN (by omega))
  have ab := round_above hup k3 k6
  rw [hlog, show L2 + 1074 - 52 = L2 + 1022 by omega] at k4 k5 ke ab
  refine ⟨K * 2 ^ (L2 + 1022), L2, ke, l1, l2, ?_, ?_, ab⟩
  · rw [← hVd]; exact k5
  · rw [← hVd]; exact k4
theorem sqrt_sq {N : Nat} (h1 : 1 ≤ N) (hN : N < 2 ^ 50) {x p q r : Nat} (hx : IsW x N) (hp : Gives (double.mul x x) p) (hq : Num q) (hk : key q = key p) (hr : Gives (double.sqrt q) r) : IsW r N := by
  obtain ⟨X, L2, kp, l1, l2, x1, x2, x3⟩ := sq_round h1 hN hx hp
  obtain ⟨s, m, i, rq⟩ := hq
  have hU := U_pos
  have hXpos : 0 < X := Nat.lt_of_lt_of_le (Nat.two_pow_pos _) x3
  have hs : s = false := (key_sign rq).2 (by rw [hk, kp]; omega)
  subst hs
  have hX : X = m * 2 ^ (i + 1074).toNat := by
    have := key_abs rq
    rw [hk, kp, Int.natAbs_natCast] at this
    exact this
  have hm : m ≠ 0 := by
    intro c
    rw [c, Nat.zero_mul] at hX
    omega
  have hm53 := (read_num rq).2.1
  obtain ⟨more, g, m1, m2, hg, hform⟩ := sqrt_form rq hm hr
  -- the log of N
  obtain ⟨l, hl⟩ : ∃ l, l = N.log2 := ⟨_, rfl⟩
  have n1 : 2 ^ l ≤ N := by rw [hl]; exact Nat.log2_self_le (by omega)
  have n2 : N < 2 ^ (l + 1) := by rw [hl]; exact Nat.lt_log2_self
  have l50 : l < 50 := by rw [hl, Nat.log2_lt (by omega)]; exact hN
  have L2r : L2 = 2 * l ∨ L2 = 2 * l + 1 := by
    have a1 := Nat.mul_le_mul n1 n1
    have a2 := Nat.mul_lt_mul_of_lt_of_le n2 (Nat.le_of_lt n2) (Nat.two_pow_pos _)
    rw [← Nat.pow_add] at a1 a2
    rcases Nat.lt_or_ge L2 (2 * l) with c | c
    · have := Nat.pow_le_pow_right (n := 2) (by omega) (show L2 + 1 ≤ l + l by omega); omega
    · rcases Nat.lt_or_ge (2 * l + 1) L2 with d | d
      · have := Nat.pow_le_pow_right (n := 2) (by omega) (show l + 1 + (l + 1) ≤ L2 by omega); omega
      · omega
  -- the place is not far behind the point
  have hi : -53 ≤ i := by
    rcases Int.lt_or_le i (-53) with c | c
    · exfalso
      have a1 : X < 2 ^ 53 * 2 ^ (i + 1074).toNat := by rw [hX]; exact Nat.mul_lt_mul_of_pos_right hm53 (Nat.two_pow_pos _)
      rw [← Nat.pow_add] at a1
      have a2 := Nat.pow_le_pow_right (n := 2) (by omega) (show 53 + (i + 1074).toNat ≤ L2 + 1074 by omega)
      omega
    · exact c
  obtain ⟨n, hn⟩ : ∃ n, n = m * 2 ^ more := ⟨_, rfl⟩
  rw [← hn] at hform
  have hnl : n.log2 = m.log2 + more := by rw [hn]; exact log2_mul_pow m more hm
  have hn0 : n ≠ 0 := by rw [hn]; exact Nat.mul_ne_zero hm (Nat.ne_of_gt (Nat.two_pow_pos _))
  have hnlo : 2 ^ 108 ≤ n := Nat.le_trans (Nat.pow_le_pow_right (by omega) (by omega)) (Nat.log2_self_le hn0)
  have hnhi : n < 2 ^ 110 := Nat.lt_of_lt_of_le (Nat.lt_log2_self) (Nat.pow_le_pow_right (by omega) (by omega))
  obtain ⟨G, hG⟩ : ∃ G, G = 2 ^ (g + 1074).toNat := ⟨_, rfl⟩
  have hGp : 0 < G := by rw [hG]; exact Nat.two_pow_pos _
  have hXU : X * U = n * (G * G) := by
    rw [hX, hn, hG, Nat.mul_assoc, Nat.mul_assoc, show U = 2 ^ uExp from rfl, ← Nat.pow_add, ← Nat.pow_add, ← Nat.pow_add]
    congr 2
    unfold uExp
    omega
  -- the place of the root
  have hXhi : X * U < 2 ^ (2 * (l + 1074) + 2) := by
    rcases Nat.lt_or_ge X (2 ^ (2 * l + 2 + 1074)) with c | c
    · rw [show 2 * (l + 1074) + 2 = (2 * l + 2 + 1074) + uExp by unfold uExp; omega, Nat.pow_add]
      exact Nat.mul_lt_mul_of_pos_right c hU
    · exfalso
      have b1 : N * N + 2 ^ (l + 1) ≤ 2 ^ (2 * l + 2) := by
        have c1 := Nat.mul_le_mul (show N ≤ 2 ^ (l + 1) - 1 by omega) (show N ≤ 2 ^ (l + 1) by omega)
        rw [Nat.sub_mul, Nat.one_mul, ← Nat.pow_add, show l + 1 + (l + 1) = 2 * l + 2 by omega] at c1
        have := Nat.pow_le_pow_right (n := 2) (by omega) (show l + 1 ≤ 2 * l + 2 by omega)
        omega
      have b2 := Nat.mul_le_mul_right U b1
      rw [Nat.add_mul, show 2 ^ (2 * l + 2) * U = 2 ^ (2 * l + 2 + 1074) from (Nat.pow_add 2 (2 * l + 2) uExp).symm, show 2 ^ (l + 1) * U = 2 ^ (l + 1 + 1074) from (Nat.pow_add 2 (l + 1) uExp).symm] at b2
      have b3 := Nat.pow_le_pow_right (n := 2) (by omega) (show L2 + 1022 ≤ l + 1 + 1074 - 1 + 1 by omega)
      have b4 : 2 ^ (l + 1 + 1074) = 2 * 2 ^ (l + 1074) := by rw [show l + 1 + 1074 = (l + 1074) + 1 by omega, Nat.pow_succ]; omega
      have b5 := Nat.two_pow_pos (l + 1074)
      have b6 := Nat.pow_le_pow_right (n := 2) (by omega) (show L2 + 1022 ≤ l + 1074 by omega)
      omega
  have hXlo : 2 ^ (2 * (l + 1074)) ≤ X * U := by
    have := Nat.mul_le_mul_right U (Nat.le_trans (Nat.pow_le_pow_right (n := 2) (by omega) (show 2 * l + 1074 ≤ L2 + 1074 by omega)) x3)
    rw [show 2 ^ (2 * l + 1074) * U = 2 ^ (2 * l + 1074 + uExp) from (Nat.pow_add _ _ _).symm] at this
    rw [show 2 * (l + 1074) = 2 * l + 1074 + uExp by unfold uExp; omega]
    exact this
  have hgg : l + 1074 = (g + 1074).toNat + 54 := by
    refine four_eq (A := X * U) hXlo hXhi ?_ ?_
    · rw [hXU, hG, ← Nat.pow_add, show 2 * ((g + 1074).toNat + 54) = 108 + ((g + 1074).toNat + (g + 1074).toNat) by omega, Nat.pow_add]
      exact Nat.mul_le_mul_right _ hnlo
    · rw [hXU, hG, ← Nat.pow_add, show 2 * ((g + 1074).toNat + 54) + 2 = 110 + ((g + 1074).toNat + (g + 1074).toNat) by omega, Nat.pow_add 2 110]
      exact Nat.mul_lt_mul_of_pos_right hnhi (Nat.two_pow_pos _)
  -- in units of the root's place
  obtain ⟨t, ht⟩ : ∃ t, t = N * 2 ^ (54 - l) := ⟨_, rfl⟩
  have hT : t * G = N * U := by
    have hu : uExp = 54 - l + (g + 1074).toNat := by unfold uExp; omega
    rw [ht, hG, Nat.mul_assoc, ← Nat.pow_add, show U = 2 ^ uExp from rfl, hu]
  have htlo : 2 ^ 54 ≤ t := by
    rw [ht, pow_split (show 54 = l + (54 - l) by omega)]
    exact Nat.mul_le_mul_right _ n1
  have hNN : N * N * U * U = t * t * (G * G) := by
    have : N * N * U * U = (N * U) * (N * U) := by rw [Nat.mul_assoc (N * N), Nat.mul_mul_mul_comm]
    rw [this, ← hT, Nat.mul_mul_mul_comm]
  have hE : ∀ d, L2 = 2 * l + d → 2 * n ≤ 2 * (t * t) + 2 ^ (56 + d) ∧ 2 * (t * t) ≤ 2 * n + 2 ^ (56 + d) := by
    intro d hd
    have e1 : 2 ^ (L2 + 1022) * U = 2 ^ (56 + d) * (G * G) := by
      have hu : L2 + 1022 + uExp = 56 + d + ((g + 1074).toNat + (g + 1074).toNat) := by unfold uExp; omega
      rw [hG, show U = 2 ^ uExp from rfl, ← Nat.pow_add, ← Nat.pow_add, ← Nat.pow_add, hu]
    have y1 := Nat.mul_le_mul_right U x1
    have y2 := Nat.mul_le_mul_right U x2
    rw [Nat.add_mul, Nat.mul_assoc 2, Nat.mul_assoc 2, hXU, hNN, e1] at y1 y2
    have y3 : 2 * n * (G * G) ≤ (2 * (t * t) + 2 ^ (56 + d)) * (G * G) := by rw [Nat.add_mul, Nat.mul_assoc 2 n, Nat.mul_assoc 2 (t * t)]; exact y1
    have y4 : 2 * (t * t) * (G * G) ≤ (2 * n + 2 ^ (56 + d)) * (G * G) := by rw [Nat.add_mul, Nat.mul_assoc 2 n, Nat.mul_assoc 2 (t * t)]; exact y2
    have hGG : 0 < G * G := Nat.mul_pos hGp hGp
    exact ⟨Nat.le_of_mul_le_mul_right y3 hGG, Nat.le_of_mul_le_mul_right y4 hGG⟩
  have hcase : n = t * t ∨ ((t - 2) * (t - 2) < n ∧ 2 ≤ t ∧ n < (t + 2) * (t + 2)) := by
    right
    obtain ⟨y, rfl⟩ : ∃ y, t = y + 2 := ⟨t - 2, by omega⟩
    have z1 : (y + 2) * (y + 2) = y * y + 4 * y + 4 := by rw [Nat.add_mul, Nat.mul_add]; omega
    have z2 : (y + 2 + 2) * (y + 2 + 2) = (y + 2) * (y + 2) + 4 * (y + 2) + 4 := by rw [Nat.add_mul (y + 2), Nat.mul_add (y + 2)]; omega
    rcases L2r with c | c
    · have e := hE 0 (by omega)
      refine ⟨?_, by omega, by rw [z2]; omega⟩
      rw [show y + 2 - 2 = y by omega]
      omega
    · have e := hE 1 (by omega)
      have ty : 2 ^ 109 ≤ (y + 2) * (y + 2) := by
        rw [ht, Nat.mul_mul_mul_comm, ← Nat.pow_add, pow_split (show 109 = L2 + (54 - l + (54 - l)) by omega)]
        exact Nat.mul_le_mul_right _ l1
      refine ⟨?_, by omega, by rw [z2]; omega⟩
      rw [show y + 2 - 2 = y by omega]
      rcases Nat.lt_or_ge (y + 2) (5 * 2 ^ 52) with d | d
      · exfalso
        have := Nat.mul_le_mul (Nat.le_of_lt d) (Nat.le_of_lt d)
        omega
      · omega
  obtain ⟨V, hV⟩ : ∃ V, V = (2 * wroot n + (wroot n * wroot n != n).toNat) * 2 ^ (g - 1 + 1074).toNat := ⟨_, rfl⟩
  have hV2 : 2 * V = (2 * wroot n + (wroot n * wroot n != n).toNat) * G := by
    have hp : 2 * 2 ^ (g - 1 + 1074).toNat = 2 ^ (g + 1074).toNat := by rw [show (g + 1074).toNat = (g - 1 + 1074).toNat + 1 by omega, Nat.pow_succ, Nat.mul_comm]
    rw [hV, hG, Nat.mul_left_comm, hp]
  obtain ⟨v1, v2, v3, v4⟩ := root_near hnlo hnhi hcase hV2 hGp
  rw [hT] at v1 v2
  have hG4 : 4 * G = 2 ^ ((g + 1074).toNat + 2) := by rw [hG, Nat.pow_add]; omega
  have hM0 : 2 * wroot n + (wroot n * wroot n != n).toNat ≠ 0 := by
    intro c
    rw [c, Nat.zero_mul] at hV2
    have := Nat.mul_pos (Nat.two_pow_pos 54) hGp
    omega
  have kr : key r = ((N * U : Nat) : Int) := by
    rw [hform]
    refine nearest_hit (g := (g + 1074).toNat + 2) (by omega) hM0 hV ?_ ?_ (by omega) ?_ (by rw [← hG4]; exact v1) (by rw [← hG4]; exact v2)
    · rw [show 52 + ((g + 1074).toNat + 2) = 54 + (g + 1074).toNat by omega, Nat.pow_add, ← hG]; exact v3
    · rw [show 53 + ((g + 1074).toNat + 2) = 55 + (g + 1074).toNat by omega, Nat.pow_add, ← hG]; exact v4
    · rw [show U = 2 ^ uExp from rfl]
      exact Nat.dvd_trans (Nat.pow_dvd_pow 2 (by unfold uExp; omega)) (Nat.dvd_mul_left _ _)
  exact isW_mk (by rw [hform]; exact nan_nearest _ _ _) (by rw [kr]; simp) (by omega)
end Flo
