/-
  Floats, plainly: products, quotients, roots and sums are near what they stand for.
-/
import Derived.Test.YtkbcdfniocmamaaFloV
namespace Flo
open Ieee

theorem NN.key {x : Nat} (h : NN x) : 0 ≤ key x := by
  unfold Flo.key
  rcases h with ⟨m, e, h⟩ | h
  · rw [h, key_num, signed_eq, if_neg (by decide), Int.one_mul]
    exact Int.natCast_nonneg _
  · rw [h, key_inf, if_neg (by decide)]
    exact Int.le_of_lt inf_pos
theorem key_near_sign (s : Bool) (m : Nat) (e : Int) : key (double.nearest s m e) = (if s then -1 else 1) * ((key (double.nearest s m e)).natAbs : Int) := by
  have h := (nn_nearest m e).key
  rw [nearest_sign s m e]
  cases s
  · simp; omega
  · simp; omega
theorem num_round (s : Bool) (m : Nat) (e : Int) (he : -1074 ≤ e) (V : Nat) (hV : V = m * 2 ^ (e + 1074).toNat) (hb : V.log2 ≤ 2096) : Num (double.nearest s m e) := by
  have hn := near_round s m e he V hV hb
  have h1 := (hn.mono (show 1 ≤ 12 by omega)).two.1
  have h2 : V < 2 ^ (V.log2 + 1) := Nat.lt_log2_self
  have h3 : 2 * V < 2 ^ (V.log2 + 2) := by rw [Nat.pow_succ]; omega
  have h4 : 2 ^ (V.log2 + 2) ≤ 2 ^ bigE := Nat.pow_le_pow_right (by omega) (by unfold bigE; omega)
  have hi : inf = ((2 ^ bigE : Nat) : Int) := rfl
  generalize 2 ^ bigE = B at *
  refine num_of_key (nan_nearest _ _ _) ?_ ?_
  · rw [hi]; omega
  · rw [hi]; omega
def wB : Nat := 100
def WW : Nat := 2 ^ wB
/-- Neither great nor small. -/
def Mid (x : Nat) : Prop := Num x ∧ (key x ≠ 0 → U ≤ (key x).natAbs * WW) ∧ (key x).natAbs ≤ U * WW
theorem Mid.place {x : Nat} (h : Mid x) (h0 : key x ≠ 0) {s : Bool} {m : Nat} {i : Int} (hr : double.read x = .number s m i) : -153 ≤ i ∧ i ≤ 100 ∧ m ≠ 0 := by
  have ha := key_abs hr
  have h1 := h.2.1 h0
  have h2 := h.2.2
  have hm := (read_num hr).2.1
  have hlo := (read_num hr).1
  have hm0 : m ≠ 0 := by
    intro c
    rw [c, Nat.zero_mul] at ha
    omega
  rw [ha] at h1 h2
  refine ⟨?_, ?_, hm0⟩
  · rcases Int.lt_or_le i (-153) with c | c
    · exfalso
      have h3 : m * 2 ^ (i + 1074).toNat * WW < 2 ^ 53 * 2 ^ (i + 1074).toNat * WW := Nat.mul_lt_mul_of_pos_right (Nat.mul_lt_mul_of_pos_right hm (Nat.two_pow_pos _)) (Nat.two_pow_pos _)
      rw [show WW = 2 ^ wB from rfl, ← Nat.pow_add, ← Nat.pow_add] at h3
      have h4 : 2 ^ (53 + (i + 1074).toNat + wB) ≤ 2 ^ uExp := Nat.pow_le_pow_right (by omega) (by unfold wB uExp; omega)
      rw [show 2 ^ uExp = U from rfl] at h4
      rw [show WW = 2 ^ wB from rfl] at h1
      omega
    · exact c
  · rcases Int.lt_or_le 100 i with c | c
    · exfalso
      have h3 : 2 ^ (i + 1074).toNat ≤ m * 2 ^ (i + 1074).toNat := Nat.le_mul_of_pos_left _ (by omega)
      have h4 : 2 ^ (uExp + wB) < 2 ^ (i + 1074).toNat := Nat.pow_lt_pow_right (by omega) (by unfold wB uExp; omega)
      rw [Nat.pow_add, show 2 ^ uExp = U from rfl, show 2 ^ wB = WW from rfl] at h4
      omega
    · exact c
theorem mid_log {V k : Nat} (h : V ≤ 2 ^ k) (hk : k ≤ 2096) : V.log2 ≤ 2096 := by
  by_cases hV : V = 0
  · subst hV; decide
  · have : V.log2 < k + 1 := by
      rw [Nat.log2_lt hV, Nat.pow_succ]
      have := Nat.two_pow_pos k
      omega
    omega
/-- A product. -/
theorem mul_near {x y r : Nat} (hx : Mid x) (hy : Mid y) (h : Gives (double.mul x y) r) : Num r ∧ Near 1 ((key r).natAbs * U) ((key x).natAbs * (key y).natAbs) := by
  have hU := U_pos
  by_cases h0 : key x = 0 ∨ key y = 0
  · have := mul_zero_any hx.1 hy.1 h0 h
    have hp := inf_pos
    refine ⟨num_of_key this.1 (by rw [this.2]; omega) (by rw [this.2]; omega), ?_⟩
    rw [this.2]
    have : (key x).natAbs * (key y).natAbs = 0 := by rcases h0 with h0 | h0 <;> rw [h0] <;> simp
    rw [this]
    simp only [Int.natAbs_zero, Nat.zero_mul]
    exact Near.refl _ _
  · have hx0 : key x ≠ 0 := fun c => h0 (.inl c)
    have hy0 : key y ≠ 0 := fun c => h0 (.inr c)
    obtain ⟨s, m, i, rx⟩ := hx.1
    obtain ⟨t, n, j, ry⟩ := hy.1
    have px := hx.place hx0 rx
    have py := hy.place hy0 ry
    have hu := mul_units rx ry (by omega)
    obtain ⟨V, hV⟩ : ∃ V, V = m * n * 2 ^ (i + j + 1074).toNat := ⟨_, rfl⟩
    have hmn : m * n ≤ 2 ^ 53 * 2 ^ 53 := Nat.mul_le_mul (Nat.le_of_lt (read_num rx).2.1) (Nat.le_of_lt (read_num ry).2.1)
    have hl : V.log2 ≤ 2096 := by
      refine mid_log (k := 53 + 53 + (i + j + 1074).toNat) ?_ (by omega)
      rw [hV, Nat.pow_add, Nat.pow_add 2 53]
      exact Nat.mul_le_mul_right _ hmn
    have hr := mul_form rx ry h
    rw [hr]
    refine ⟨num_round _ _ _ (by omega) V hV hl, ?_⟩
    rw [← hu, ← hV]
    exact (near_round _ _ _ (by omega) V hV hl).scale U
theorem mul_self_nn {x r : Nat} (hx : Num x) (h : Gives (double.mul x x) r) : 0 ≤ key r := by
  obtain ⟨s, m, i, rx⟩ := hx
  rw [mul_form rx rx h, Bool.xor_self]
  exact (nn_nearest _ _).key
/-- A sum of what is not below nought. -/
theorem add_near {x y r : Nat} (hx : Num x) (hy : Num y) (h1 : 0 ≤ key x) (h2 : 0 ≤ key y) (hb : ((key x).natAbs + (key y).natAbs).log2 ≤ 2096) (h : Gives (double.add x y) r) : Num r ∧ 0 ≤ key r ∧ Near 1 (key r).natAbs ((key x).natAbs + (key y).natAbs) := by
  obtain ⟨z, m, e, he, hr, hv, -, hz⟩ := sum_written hx hy h
  have ev : (key x + key y).natAbs = (key x).natAbs + (key y).natAbs := by omega
  rw [ev] at hv
  have hn := near_round z m e he _ hv hb
  have hm := num_round z m e he _ hv hb
  rw [← hr] at hn hm
  refine ⟨hm, ?_, hn⟩
  by_cases h0 : key x + key y = 0
  · have e0 : (key x).natAbs + (key y).natAbs = 0 := by omega
    have := (hn.mono (show 1 ≤ 12 by omega)).two.1
    omega
  · have hz := hz (by omega)
    rw [hr, hz]
    exact (nn_nearest _ _).key
/-- A quotient: what it stands for, and its sign. -/
theorem div_near {x y r : Nat} (hx : Mid x) (hy : Mid y) (h0 : key y ≠ 0) (h : Gives (double.div x y) r) : Num r ∧ Near 2 ((key r).natAbs * (key y).natAbs) ((key x).natAbs * U) := by
  have hU := U_pos
  obtain ⟨t, n, j, ry⟩ := hy.1
  have py := hy.place h0 ry
  obtain ⟨s, m, i, rx⟩ := hx.1
  have hr := div_form rx ry py.2.2 h
  by_cases hx0 : key x = 0
  · have hm : m = 0 := by
      have := key_abs rx
      rw [hx0] at this
      rcases Nat.mul_eq_zero.1 this.symm with c | c
      · exact c
      · exact absurd c (Nat.ne_of_gt (Nat.two_pow_pos _))
    subst hm
    rw [Nat.zero_shiftLeft, Nat.zero_div, Nat.zero_mod] at hr
    have e : r = double.nearest (s ^^ t) 0 (i - j - (54 + n.log2 - Nat.log2 0 : Nat) - 1) := hr
    have z := nearest_zero (s ^^ t) (i - j - (54 + n.log2 - Nat.log2 0 : Nat) - 1)
    have hp := inf_pos
    rw [e]
    refine ⟨num_of_key z.1 (by rw [z.2]; omega) (by rw [z.2]; omega), ?_⟩
    rw [z.2, hx0]
    simp only [Int.natAbs_zero, Nat.zero_mul]
    exact Near.refl _ _
  · have px := hx.place hx0 rx
    have hm53 : m.log2 < 53 := (Nat.log2_lt px.2.2).2 (read_num rx).2.1
    have hn53 : n.log2 < 53 := (Nat.log2_lt py.2.2).2 (read_num ry).2.1
    obtain ⟨g, hg⟩ : ∃ g, g = 54 + n.log2 - m.log2 := ⟨_, rfl⟩
    rw [← hg, Nat.shiftLeft_eq] at hr
    obtain ⟨D, hD⟩ : ∃ D, D = m * 2 ^ g := ⟨_, rfl⟩
    rw [← hD] at hr
    obtain ⟨M, hM⟩ : ∃ M, M = 2 * (D / n) + (D % n != 0).toNat := ⟨_, rfl⟩
    rw [← hM] at hr
    have hn0 : 0 < n := by omega
    have hdm := Nat.div_add_mod D n
    have hml := Nat.mod_lt D hn0
    have hMn : 2 ^ 53 * (M * n) ≤ 2 ^ 53 * (2 * D) + 2 * D ∧ 2 ^ 53 * (2 * D) ≤ 2 ^ 53 * (M * n) + 2 * D := by
      have hDl : 2 ^ 53 * n ≤ D := by
        have a1 : n < 2 ^ (n.log2 + 1) := Nat.lt_log2_self
        have a2 : 2 ^ m.log2 ≤ m := Nat.log2_self_le px.2.2
        have a3 : 2 ^ m.log2 * 2 ^ g ≤ D := by rw [hD]; exact Nat.mul_le_mul_right _ a2
        rw [← Nat.pow_add, show m.log2 + g = 53 + (n.log2 + 1) by omega, Nat.pow_add] at a3
        exact Nat.le_trans (Nat.mul_le_mul_left _ (Nat.le_of_lt a1)) a3
      have e1 : M * n = 2 * (n * (D / n)) + (D % n != 0).toNat * n := by rw [hM, Nat.add_mul, Nat.mul_assoc, Nat.mul_comm (D / n)]
      generalize n * (D / n) = Q at *
      by_cases hz : D % n = 0
      · rw [hz] at e1 hdm
        simp at e1
        omega
      · have : (D % n != 0) = true := by rw [bne_iff_ne]; exact hz
        have t1 : (true : Bool).toNat = 1 := rfl
        rw [this, t1, Nat.one_mul] at e1
        omega
    have hN1 : Near 1 (M * n) (2 * D) := Near.of_err hMn.1 hMn.2
    obtain ⟨V, hV⟩ : ∃ V, V = M * 2 ^ (i - j - (g : Int) - 1 + 1074).toNat := ⟨_, rfl⟩
    have hMb : M ≤ 2 ^ 111 := by
      have b1 : D < 2 ^ (m.log2 + 1) * 2 ^ g := by rw [hD]; exact Nat.mul_lt_mul_of_pos_right Nat.lt_log2_self (Nat.two_pow_pos _)
      rw [← Nat.pow_add] at b1
      have b2 := Nat.pow_le_pow_right (n := 2) (by omega) (show m.log2 + 1 + g ≤ 109 by omega)
      have b3 : D / n ≤ D := Nat.div_le_self _ _
      have b4 := Bool.toNat_le (D % n != 0)
      omega
    have hl : V.log2 ≤ 2096 := by
      refine mid_log (k := 111 + (i - j - (g : Int) - 1 + 1074).toNat) ?_ (by omega)
      rw [hV, Nat.pow_add]
      exact Nat.mul_le_mul_right _ hMb
    rw [hr]
    refine ⟨num_round _ _ _ (by omega) V hV hl, ?_⟩
    have h1 := (near_round (s ^^ t) M (i - j - (g : Int) - 1) (by omega) V hV hl).scale (key y).natAbs
    have h2 : Near 1 (V * (key y).natAbs) ((key x).natAbs * U) := by
      refine Near.cancel (k := 2) (by omega) ?_
      have e1 : V * (key y).natAbs * 2 = M * n * 2 ^ (i - (g : Int) + 2148).toNat := by
        rw [hV, key_abs ry]
        have : 2 ^ (i - j - (g : Int) - 1 + 1074).toNat * 2 ^ (j + 1074).toNat * 2 = 2 ^ (i - (g : Int) + 2148).toNat := by
          rw [← Nat.pow_add, ← Nat.pow_succ]
          congr 1
          omega
        rw [← this]
        rw [Nat.mul_mul_mul_comm, Nat.mul_assoc]
      have e2 : (key x).natAbs * U * 2 = 2 * D * 2 ^ (i - (g : Int) + 2148).toNat := by
        rw [key_abs rx, hD, show U = 2 ^ uExp from rfl]
        have : 2 ^ (i + 1074).toNat * 2 ^ uExp = 2 ^ g * 2 ^ (i - (g : Int) + 2148).toNat := by
          have hx : (i + 1074).toNat + uExp = g + (i - (g : Int) + 2148).toNat := by unfold uExp; omega
          rw [← Nat.pow_add, ← Nat.pow_add, hx]
        rw [Nat.mul_assoc m, this, Nat.mul_comm _ 2, ← Nat.mul_assoc m, Nat.mul_assoc 2]
      rw [e1, e2]
      exact hN1.scale _
    exact h1.trans h2
theorem div_sign {x y r : Nat} (hx : Num x) (hy : Num y) (h0 : 0 < key y) (h : Gives (double.div x y) r) : (key x < 0 → key r ≤ 0) ∧ (0 < key x → 0 ≤ key r) := by
  obtain ⟨s, m, i, rx⟩ := hx
  obtain ⟨t, n, j, ry⟩ := hy
  have hn : n ≠ 0 := by
    intro c
    have := key_abs ry
    rw [c, Nat.zero_mul] at this
    omega
  have ht := (key_sign ry).2 h0
  subst ht
  have hr := div_form rx ry hn h
  have hk := key_near_sign (s ^^ false) (2 * (m <<< (54 + n.log2 - m.log2) / n) + (m <<< (54 + n.log2 - m.log2) % n != 0).toNat) (i - j - (54 + n.log2 - m.log2 : Nat) - 1)
  rw [← hr, Bool.xor_false] at hk
  refine ⟨fun c => ?_, fun c => ?_⟩
  · rw [(key_sign rx).1 c] at hk
    simp at hk
    omega
  · rw [(key_sign rx).2 c] at hk
    simp at hk
    omega
/-- Of opposite numbers: quotients of one size. -/
theorem div_same {x x' y r r' : Nat} {s s' : Bool} {m : Nat} {i : Int} (hx : double.read x = .number s m i) (hx' : double.read x' = .number s' m i) (hy : Num y) (h0 : key y ≠ 0) (h : Gives (double.div x y) r) (h' : Gives (double.div x' y) r') : (key r).natAbs = (key r').natAbs := by
  obtain ⟨t, n, j, ry⟩ := hy
  have hn : n ≠ 0 := by
    intro c
    have := key_abs ry
    rw [c, Nat.zero_mul] at this
    omega
  rw [div_form hx ry hn h, div_form hx' ry hn h', nearest_sign (s ^^ t), nearest_sign (s' ^^ t), Int.natAbs_mul, Int.natAbs_mul]
  cases (s ^^ t) <;> cases (s' ^^ t) <;> rfl
/-- A root. -/
theorem sqrt_near {x r : Nat} (hx : Mid x) (h0 : 0 < key x) (h : Gives (double.sqrt x) r) : Num r ∧ 0 ≤ key r ∧ Near 3 ((key r).natAbs * (key r).natAbs) ((key x).natAbs * U) := by
  obtain ⟨s, m, i, rx⟩ := hx.1
  have px := hx.place (by omega) rx
  have hs := (key_sign rx).2 h0
  subst hs
  obtain ⟨more, g, m1, m2, hg, hr⟩ := sqrt_form rx px.2.2 h
  obtain ⟨n, hn⟩ : ∃ n, n = m * 2 ^ more := ⟨_, rfl⟩
  rw [← hn] at hr
  have hn0 : n ≠ 0 := by rw [hn]; exact Nat.mul_ne_zero px.2.2 (Nat.ne_of_gt (Nat.two_pow_pos _))
  have hnl : n.log2 = m.log2 + more := by rw [hn]; exact log2_mul_pow m more px.2.2
  have hnlo : 2 ^ 108 ≤ n := Nat.le_trans (Nat.pow_le_pow_right (by omega) (by omega)) (Nat.log2_self_le hn0)
  have hnhi : n < 2 ^ 110 := Nat.lt_of_lt_of_le (Nat.lt_log2_self) (Nat.pow_le_pow_right (by omega) (by omega))
  obtain ⟨s1, s2⟩ := wroot_spec n
  obtain ⟨w, hw⟩ : ∃ w, w = wroot n := ⟨_, rfl⟩
  rw [← hw] at s1 s2 hr
  obtain ⟨M, hM⟩ : ∃ M, M = 2 * w + (w * w != n).toNat := ⟨_, rfl⟩
  rw [← hM] at hr
  have w1 : 2 ^ 54 ≤ w := by
    rcases Nat.lt_or_ge w (2 ^ 54) with c | c
    · exfalso
      have := Nat.mul_le_mul (show w + 1 ≤ 2 ^ 54 by omega) (show w + 1 ≤ 2 ^ 54 by omega)
      omega
    · exact c
  have w2 : w < 2 ^ 55 := by
    rcases Nat.lt_or_ge w (2 ^ 55) with c | c
    · exact c
    · exfalso
      have := Nat.mul_le_mul c c
      omega
  have hMM : Near 1 (M * M) (4 * n) := by
    have ww : 2 ^ 54 * w ≤ w * w := Nat.mul_le_mul_right w w1
    have e3 : (w + 1) * (w + 1) = w * w + 2 * w + 1 := by rw [Nat.add_mul, Nat.mul_add]; omega
    rw [e3] at s2
    by_cases hz : w * w = n
    · have : (w * w != n) = false := by rw [bne_eq_false_iff_eq]; exact hz
      rw [this] at hM
      have e : M * M = 4 * n := by
        rw [hM, ← hz]
        have : (false : Bool).toNat = 0 := rfl
        rw [this, Nat.add_zero, Nat.mul_mul_mul_comm]
      rw [e]
      exact Near.refl _ _
    · have : (w * w != n) = true := by rw [bne_iff_ne]; exact hz
      rw [this] at hM
      have e : M * M = 4 * (w * w) + 4 * w + 1 := by
        rw [hM]
        have : (true : Bool).toNat = 1 := rfl
        rw [this, Nat.add_mul, Nat.mul_add, Nat.mul_mul_mul_comm]
        omega
      exact Near.of_err (by omega) (by omega)
  obtain ⟨V, hV⟩ : ∃ V, V = M * 2 ^ (g - 1 + 1074).toNat := ⟨_, rfl⟩
  have hMb : M ≤ 2 ^ 57 := by rw [hM]; have := Bool.toNat_le (w * w != n); omega
  have hl : V.log2 ≤ 2096 := by
    refine mid_log (k := 57 + (g - 1 + 1074).toNat) ?_ (by omega)
    rw [hV, Nat.pow_add]
    exact Nat.mul_le_mul_right _ hMb
  have hnr := near_round false M (g - 1) (by omega) V hV hl
  have hnum := num_round false M (g - 1) (by omega) V hV hl
  rw [← hr] at hnr hnum
  refine ⟨hnum, by rw [hr]; exact (nn_nearest _ _).key, ?_⟩
  have h1 : Near 2 ((key r).natAbs * (key r).natAbs) (V * V) := hnr.mul hnr
  refine h1.trans (n := 1) ?_
  refine Near.cancel (k := 4) (by omega) ?_
  have e1 : V * V * 4 = M * M * (2 ^ (g + 1074).toNat * 2 ^ (g + 1074).toNat) := by
    have hp : 2 ^ (g + 1074).toNat = 2 ^ (g - 1 + 1074).toNat * 2 := by rw [← Nat.pow_succ]; congr 1; omega
    rw [hV, hp, Nat.mul_mul_mul_comm M, Nat.mul_mul_mul_comm _ 2, Nat.mul_assoc (M * M)]
  have e2 : (key x).natAbs * U * 4 = 4 * n * (2 ^ (g + 1074).toNat * 2 ^ (g + 1074).toNat) := by
    have hx2 : 2 ^ (i + 1074).toNat * 2 ^ uExp = 2 ^ more * (2 ^ (g + 1074).toNat * 2 ^ (g + 1074).toNat) := by
      have hy : (i + 1074).toNat + uExp = more + ((g + 1074).toNat + (g + 1074).toNat) := by unfold uExp; omega
      rw [← Nat.pow_add, ← Nat.pow_add, ← Nat.pow_add, hy]
    rw [key_abs rx, hn, show U = 2 ^ uExp from rfl, Nat.mul_assoc m, hx2, Nat.mul_comm _ 4, ← Nat.mul_assoc m, Nat.mul_assoc 4]
  rw [e1, e2]
  exact hMM.scale _
end Flo
