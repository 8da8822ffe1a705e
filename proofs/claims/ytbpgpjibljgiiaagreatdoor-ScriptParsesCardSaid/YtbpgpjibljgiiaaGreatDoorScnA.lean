/-
  Script: scan: a number's text, its sign, its digits, its end (four labels). Printed by genSc.py.
-/
import Derived.Test.YtbpgpjibljgiiaaGreatDoorRowA
import Derived.ScopeJumps
import Derived.WalkMore
namespace Go
/-- As Q; by a goto to label l: J l. -/
def Exit.jumps (J : Nat → Act → World → Prop) (Q : Exit → Act → World → Prop) : Exit → Act → World → Prop
  | .goto l, a, w => J l a w
  | e, a, w => Q e a w
section
variable {P : Program} {a : Act} {w : World} {Q : Exit → Act → World → Prop}
/-- A scope of four labels. -/
theorem wp_scope4 {c r0 r1 r2 r3 : Code} (J : Nat → Act → World → Prop) (μ : Nat → Act → World → Nat) (h0 : findLabel c 0 = some r0) (h1 : findLabel c 1 = some r1) (h2 : findLabel c 2 = some r2) (h3 : findLabel c 3 = some r3) (hJ : ∀ l a w, J l a w → l < 4)
    (first : c.wp P (Exit.jumps J Q) a w)
    (p0 : ∀ a w, J 0 a w → r0.wp P (Exit.jumps (fun l' a' w' => J l' a' w' ∧ μ l' a' w' < μ 0 a w) Q) a w)
    (p1 : ∀ a w, J 1 a w → r1.wp P (Exit.jumps (fun l' a' w' => J l' a' w' ∧ μ l' a' w' < μ 1 a w) Q) a w)
    (p2 : ∀ a w, J 2 a w → r2.wp P (Exit.jumps (fun l' a' w' => J l' a' w' ∧ μ l' a' w' < μ 2 a w) Q) a w)
    (p3 : ∀ a w, J 3 a w → r3.wp P (Exit.jumps (fun l' a' w' => J l' a' w' ∧ μ l' a' w' < μ 3 a w) Q) a w) : (Code.scope c).wp P Q a w := by
  intro b k cs
  have hpass : ∀ l a w, J l a w → ∃ r, findLabel c l = some r ∧ r.wp P (Exit.jumps (fun l' a' w' => J l' a' w' ∧ μ l' a' w' < μ l a w) Q) a w := fun l a w h => by
    have hl := hJ l a w h
    have hc : l = 0 ∨ l = 1 ∨ l = 2 ∨ l = 3 := by omega
    rcases hc with rfl | rfl | rfl | rfl
    · exact ⟨r0, h0, p0 a w h⟩
    · exact ⟨r1, h1, p1 a w h⟩
    · exact ⟨r2, h2, p2 a w h⟩
    · exact ⟨r3, h3, p3 a w h⟩
  have key : ∀ n l a w, μ l a w = n → J l a w → ∃ r, findLabel c l = some r ∧ ∃ e a' w', Q e a' w' ∧ Arrives P (lone (b.at a (.code r :: .inScope c :: k)) cs w) b k cs e a' w' := by
    intro n
    induction n using Nat.strongRecOn with
    | _ n ih =>
      intro l a w hn hJl
      obtain ⟨r, hr, pass⟩ := hpass l a w hJl
      refine ⟨r, hr, ?_⟩
      obtain ⟨e, a₁, w₁, hq, harr⟩ := pass b (.inScope c :: k) cs
      cases e with
      | normal => exact ⟨.normal, a₁, w₁, hq, Steps.trans harr (.one step_inScope)⟩
      | exit id => exact ⟨.exit id, a₁, w₁, hq, fun k' hk => harr k' (by simp [exitTo, hk])⟩
      | goto l' =>
        obtain ⟨hJ', hlt⟩ := hq
        obtain ⟨r', hr', e₂, a₂, w₂, hq₂, harr₂⟩ := ih _ (by omega) l' a₁ w₁ rfl hJ'
        have hg : gotoIn l' (.inScope c :: k) = some (.code r' :: .inScope c :: k) := by simp [gotoIn, hr']
        exact ⟨e₂, a₂, w₂, hq₂, .of_steps (harr _ hg) harr₂⟩
      | ret => exact ⟨_, a₁, w₁, hq, harr⟩
      | panic ch => exact ⟨_, a₁, w₁, hq, harr⟩
      | outgrown => exact ⟨_, a₁, w₁, hq, harr⟩
  obtain ⟨e, a₁, w₁, hq, harr⟩ := first b (.inScope c :: k) cs
  cases e with
  | normal => exact ⟨.normal, a₁, w₁, hq, .head step_scope (Steps.trans harr (.one step_inScope))⟩
  | exit id => exact ⟨.exit id, a₁, w₁, hq, fun k' hk => .head step_scope (harr k' (by simp [exitTo, hk]))⟩
  | goto l' =>
    obtain ⟨r', hr', e₂, a₂, w₂, hq₂, harr₂⟩ := key _ l' a₁ w₁ rfl hq
    have hg : gotoIn l' (.inScope c :: k) = some (.code r' :: .inScope c :: k) := by simp [gotoIn, hr']
    exact ⟨e₂, a₂, w₂, hq₂, .of_steps (.head step_scope (harr _ hg)) harr₂⟩
  | ret => exact ⟨_, a₁, w₁, hq, .of_steps (.one step_scope) harr⟩
  | panic ch => exact ⟨_, a₁, w₁, hq, .of_steps (.one step_scope) harr⟩
  | outgrown => exact ⟨_, a₁, w₁, hq, .of_steps (.one step_scope) harr⟩
end
end Go
namespace Go.Proofs.YtbpgpjibljgiiaaGreatDoor
open Go.RowKit
set_option linter.unusedVariables false
set_option linter.unusedSimpArgs false
attribute [local go_sem] Oper.semAt_some
namespace Sc
/-- The digits that are left, behind a number that was read. -/
def digs : Nat → List UInt8 → Option Nat
  | a, [] => some a
  | a, c :: l => if c.toNat < 48 ∨ 57 < c.toNat ∨ 922337203685477580 < a then none else digs (10 * a + (c.toNat - 48)) l
/-- The number that the digits are, with a sign. -/
def sgn (below : Bool) : Option Nat → Option Int
  | none => none
  | some a => if below then (if a ≤ 9223372036854775808 then some (-(a : Int)) else none) else (if a < 9223372036854775808 then some (a : Int) else none)
/-- Behind the sign. -/
def num (below : Bool) : List UInt8 → Option Int
  | [] => none
  | 48 :: l => if below then none else match l with
    | [] => some 0
    | _ => none
  | c :: l => sgn below (digs 0 (c :: l))
/-- scan. -/
def scan : List UInt8 → Option Int
  | 45 :: l => num true l
  | l => num false l
theorem digs_lt : ∀ (l : List UInt8) (a b : Nat), a ≤ 9223372036854775809 → digs a l = some b → b ≤ 9223372036854775809
  | [], a, b, h, e => by simp [digs] at e; omega
  | c :: l, a, b, h, e => by
    unfold digs at e
    split at e
    · cases e
    · exact digs_lt l _ b (by omega) e
section
variable {s : ByteArray} {i : Nat} {b : Bool}
theorem drop_at (h : i < s.size) : s.data.toList.drop i = s[i] :: s.data.toList.drop (i + 1) := List.drop_eq_getElem_cons (by simpa using h)
theorem drop_end (h : ¬ i < s.size) : s.data.toList.drop i = [] := List.drop_eq_nil_of_le (by have h2 : s.data.toList.length = s.size := (by simp); omega)
theorem scan_none (h : s.size = 0) : scan s.data.toList = none := by
  rw [show s.data.toList = s.data.toList.drop 0 from rfl, drop_end (by omega)]; rfl
theorem scan_minus (h : 0 < s.size) (e : s[0] = 45) : scan s.data.toList = num true (s.data.toList.drop 1) := by
  conv => lhs; rw [show s.data.toList = s.data.toList.drop 0 from rfl, drop_at h, e]
  rfl
theorem scan_plus (h : 0 < s.size) (e : s[0] ≠ 45) : scan s.data.toList = num false (s.data.toList.drop 0) := by
  conv => lhs; rw [show s.data.toList = s.data.toList.drop 0 from rfl, drop_at h]
  conv => rhs; rw [drop_at h]
  unfold scan
  split
  · rename_i heq; exact absurd (List.cons.inj heq).1 e
  · rfl
theorem num_end (h : ¬ i < s.size) : num b (s.data.toList.drop i) = none := by rw [drop_end h]; rfl
theorem num_zero (h : i < s.size) (e : s[i] = 48) : num b (s.data.toList.drop i) = if b then none else if i + 1 < s.size then none else some 0 := by
  rw [drop_at h, e]
  unfold num
  by_cases h1 : i + 1 < s.size
  · rw [if_pos h1, drop_at h1]; rfl
  · rw [if_neg h1, drop_end h1]; rfl
theorem num_dig (h : i < s.size) (e : s[i] ≠ 48) : num b (s.data.toList.drop i) = sgn b (digs 0 (s.data.toList.drop i)) := by
  rw [drop_at h]
  unfold num
  split
  · rename_i heq; cases heq
  · rename_i heq; exact absurd (List.cons.inj heq).1 e
  · rename_i heq; rw [(List.cons.inj heq).1, (List.cons.inj heq).2]
theorem digs_end (sz : Nat) (h : ¬ i < s.size) : digs sz (s.data.toList.drop i) = some sz := by rw [drop_end h]; rfl
theorem digs_bad (sz : Nat) (h : i < s.size) (e : s[i].toNat < 48 ∨ 57 < s[i].toNat ∨ 922337203685477580 < sz) : digs sz (s.data.toList.drop i) = none := by rw [drop_at h, digs, if_pos e]
theorem digs_ok (sz : Nat) (h : i < s.size) (e : ¬ (s[i].toNat < 48 ∨ 57 < s[i].toNat ∨ 922337203685477580 < sz)) : digs sz (s.data.toList.drop i) = digs (10 * sz + (s[i].toNat - 48)) (s.data.toList.drop (i + 1)) := by rw [drop_at h, digs, if_neg e]
end
/-- The frame at a label: the text, what was read, the place, the sign. -/
def Fm (s : ByteArray) (sz i : Nat) (below : Bool) (a : Act) : Prop := ∃ u1 u2 u3 u7 u8 u9 u10 u11 u12 u13 u14 u15 u16 u17 u18 u19 u20 u21 u22 u23 u24 u25 u26 u27 u28 u29 u30 u31 u32 u33 u34 u35 u36 u37 u38 u39 u40 u41 u42 u43 u44 u45 u46 u47 u48 u49 u50 u51 u52 u53 u54 u55 u56 u57 u58 u59 u60 u61 u62 u63 u64 u65 u66 u67 u68 u69 u70 u71 u72 u73 u74 u75 u76 u77 u78 u79 : Value, a = { tmps := #[.string s, u1, u2, u3, .int .u64 sz, .int .i64 i, .bool below, u7, u8, u9, u10, u11, u12, u13, u14, u15, u16, u17, u18, u19, u20, u21, u22, u23, u24, u25, u26, u27, u28, u29, u30, u31, u32, u33, u34, u35, u36, u37, u38, u39, u40, u41, u42, u43, u44, u45, u46, u47, u48, u49, u50, u51, u52, u53, u54, u55, u56, u57, u58, u59, u60, u61, u62, u63, u64, u65, u66, u67, u68, u69, u70, u71, u72, u73, u74, u75, u76, u77, u78, u79], defers := [] }
def Jm (s : ByteArray) (w0 : World) (l : Nat) (a : Act) (w : World) : Prop := w = w0 ∧ ∃ (sz i : Nat) (below : Bool), Fm s sz i below a ∧ i ≤ s.size ∧ sz ≤ 9223372036854775809 ∧
  match l with
  | 0 => scan s.data.toList = none
  | 1 => below = false ∧ sz = 0 ∧ scan s.data.toList = (if i < s.size then none else some 0)
  | 2 => scan s.data.toList = sgn below (some sz)
  | 3 => scan s.data.toList = sgn below (digs sz (s.data.toList.drop i))
  | _ => False
def iOf (a : Act) : Nat := match a.tmps.getD 5 undef with | .int _ q => q.toNat | _ => 0
def mu (n : Nat) (l : Nat) (a : Act) (w : World) : Nat := if l = 3 then 10 + (n - iOf a) else if l = 1 then 3 else if l = 2 then 2 else 1
def scanV (o : Option Int) : Value := .tuple #[.int .i64 (o.getD 0), .bool o.isSome]
set_option maxRecDepth 100000 in
set_option maxHeartbeats 4000000 in
theorem scan_any (w : World) (s : ByteArray) (hs : s.size ≤ 4294967296) : Calls Tryz.prog 60 #[.string s] w fun e w' => e = .returned (scanV (scan s.data.toList)) ∧ w' = w := by
  go_enter Tryz.func60, Tryz.ntmps60
  go_wp2
  refine wp_scope4 (Jm s w) (mu s.size) rfl rfl rfl rfl (fun l a w h => by
    obtain ⟨_, _, _, _, _, _, _, h⟩ := h
    match l, h with
    | 0, _ => decide
    | 1, _ => decide
    | 2, _ => decide
    | 3, _ => decide) ?_ ?_ ?_ ?_ ?_
  · by_cases h0 : s.size = 0
    · go_wp2
      go_step3
      exact ⟨rfl, 0, 0, false, ⟨_, _, _, _, _, _, _, _, _, _, _, _, _, _, _, _, _, _, _, _, _, _, _, _, _, _, _, _, _, _, _, _, _, _, _, _, _, _, _, _, _, _, _, _, _, _, _, _, _, _, _, _, _, _, _, _, _, _, _, _, _, _, _, _, _, _, _, _, _, _, _, _, _, _, _, _, rfl⟩, by omega, by omega, scan_none h0⟩
    · have hp : 0 < s.size := by omega
      have k0 : (0 : Int) < (s.size : Int) := by omega
      have HS := Lib.hid hs
      by_cases e0 : s[0] = 45
      · have b0 : ((s[0].toNat : Int) == 45) = true := by rw [e0]; rfl
        have HE := Lib.hid (scan_minus hp e0)
        clear e0 h0
        by_cases h1 : 1 < s.size
        · have k1 : (1 : Int) < (s.size : Int) := by omega
          have b1 : ((1 : Int) == (s.size : Int)) = false := by rw [beq_eq_false_iff_ne]; omega
          by_cases e1 : s[1] = 48
          · have b2 : ((s[1].toNat : Int) == 48) = true := by rw [e1]; rfl
            have HZ := Lib.hid (num_zero (b := true) h1 e1)
            clear e1 hs
            go_wp2
            go_step3
            exact ⟨rfl, 0, 2, true, ⟨_, _, _, _, _, _, _, _, _, _, _, _, _, _, _, _, _, _, _, _, _, _, _, _, _, _, _, _, _, _, _, _, _, _, _, _, _, _, _, _, _, _, _, _, _, _, _, _, _, _, _, _, _, _, _, _, _, _, _, _, _, _, _, _, _, _, _, _, _, _, _, _, _, _, _, _, rfl⟩, by omega, by omega, by rw [HE.out, HZ.out]; rfl⟩
          · have b2 : ((s[1].toNat : Int) == 48) = false := by rw [beq_eq_false_iff_ne]; exact fun h => e1 (UInt8.toNat_inj.1 (by simpa using (show s[1].toNat = 48 by omega)))
            have HZ := Lib.hid (num_dig (b := true) h1 e1)
            clear e1
            go_wp2
            go_step3
            by_cases hA : s[1].toNat < 48 ∨ 57 < s[1].toNat
            · have HB := Lib.hid (show scan s.data.toList = none by rw [HE.out, HZ.out, digs_bad 0 h1 (by omega)]; rfl)
              rcases hA with hA | hA
              · have a1 : (s[1].toNat : Int) < 48 := by omega
                clear hA
                go_wp2
                go_step3
                exact ⟨rfl, 0, 1, true, ⟨_, _, _, _, _, _, _, _, _, _, _, _, _, _, _, _, _, _, _, _, _, _, _, _, _, _, _, _, _, _, _, _, _, _, _, _, _, _, _, _, _, _, _, _, _, _, _, _, _, _, _, _, _, _, _, _, _, _, _, _, _, _, _, _, _, _, _, _, _, _, _, _, _, _, _, _, rfl⟩, by omega, by omega, HB.out⟩
              · have a1 : (57 : Int) < (s[1].toNat : Int) := by omega
                have a2 : (48 : Int) ≤ (s[1].toNat : Int) := by omega
                clear hA
                go_wp2
                go_step3
                exact ⟨rfl, 0, 1, true, ⟨_, _, _, _, _, _, _, _, _, _, _, _, _, _, _, _, _, _, _, _, _, _, _, _, _, _, _, _, _, _, _, _, _, _, _, _, _, _, _, _, _, _, _, _, _, _, _, _, _, _, _, _, _, _, _, _, _, _, _, _, _, _, _, _, _, _, _, _, _, _, _, _, _, _, _, _, rfl⟩, by omega, by omega, HB.out⟩
            · have HB := Lib.hid (show scan s.data.toList = sgn true (digs (s[1].toNat - 48) (s.data.toList.drop (1 + 1))) by rw [HE.out, HZ.out, digs_ok 0 h1 (by omega), Nat.mul_zero, Nat.zero_add])
              have a1 : (s[1].toNat : Int) ≤ 57 := by omega
              have a2 : (48 : Int) ≤ (s[1].toNat : Int) := by omega
              have HA := Lib.hid hA
              clear hA
              go_wp2
              rw [show ((s[1].toNat : Int) - (48 : Int)) = ((s[1].toNat - 48 : Nat) : Int) from by have := HA.out; omega]
              go_step3
              exact ⟨rfl, s[1].toNat - 48, 1 + 1, true, ⟨_, _, _, _, _, _, _, _, _, _, _, _, _, _, _, _, _, _, _, _, _, _, _, _, _, _, _, _, _, _, _, _, _, _, _, _, _, _, _, _, _, _, _, _, _, _, _, _, _, _, _, _, _, _, _, _, _, _, _, _, _, _, _, _, _, _, _, _, _, _, _, _, _, _, _, _, rfl⟩, by omega, by have := HA.out; omega, HB.out⟩
        · have hz : s.size = 1 := by omega
          go_wp2
          go_step3
          exact ⟨rfl, 0, 1, true, ⟨_, _, _, _, _, _, _, _, _, _, _, _, _, _, _, _, _, _, _, _, _, _, _, _, _, _, _, _, _, _, _, _, _, _, _, _, _, _, _, _, _, _, _, _, _, _, _, _, _, _, _, _, _, _, _, _, _, _, _, _, _, _, _, _, _, _, _, _, _, _, _, _, _, _, _, _, rfl⟩, by omega, by omega, by rw [HE.out]; exact num_end h1⟩
      · have b0 : ((s[0].toNat : Int) == 45) = false := by rw [beq_eq_false_iff_ne]; exact fun h => e0 (UInt8.toNat_inj.1 (by simpa using (show s[0].toNat = 45 by omega)))
        have HE := Lib.hid (scan_plus hp e0)
        clear e0
        have b1 : ((0 : Int) == (s.size : Int)) = false := by rw [beq_eq_false_iff_ne]; omega
        clear h0
        by_cases e1 : s[0] = 48
        · have b2 : ((s[0].toNat : Int) == 48) = true := by rw [e1]; rfl
          have HZ := Lib.hid (num_zero (i := 0) (b := false) hp e1)
          clear e1
          go_wp2
          go_step3
          exact ⟨rfl, 0, 1, false, ⟨_, _, _, _, _, _, _, _, _, _, _, _, _, _, _, _, _, _, _, _, _, _, _, _, _, _, _, _, _, _, _, _, _, _, _, _, _, _, _, _, _, _, _, _, _, _, _, _, _, _, _, _, _, _, _, _, _, _, _, _, _, _, _, _, _, _, _, _, _, _, _, _, _, _, _, _, rfl⟩, by omega, by omega, rfl, rfl, by rw [HE.out, HZ.out]; rfl⟩
        · have b2 : ((s[0].toNat : Int) == 48) = false := by rw [beq_eq_false_iff_ne]; exact fun h => e1 (UInt8.toNat_inj.1 (by simpa using (show s[0].toNat = 48 by omega)))
          have HZ := Lib.hid (num_dig (i := 0) (b := false) hp e1)
          clear e1
          go_wp2
          go_step3
          by_cases hA : s[0].toNat < 48 ∨ 57 < s[0].toNat
          · have HB := Lib.hid (show scan s.data.toList = none by rw [HE.out, HZ.out, digs_bad 0 hp (by omega)]; rfl)
            rcases hA with hA | hA
            · have a1 : (s[0].toNat : Int) < 48 := by omega
              clear hA
              go_wp2
              go_step3
              exact ⟨rfl, 0, 0, false, ⟨_, _, _, _, _, _, _, _, _, _, _, _, _, _, _, _, _, _, _, _, _, _, _, _, _, _, _, _, _, _, _, _, _, _, _, _, _, _, _, _, _, _, _, _, _, _, _, _, _, _, _, _, _, _, _, _, _, _, _, _, _, _, _, _, _, _, _, _, _, _, _, _, _, _, _, _, rfl⟩, by omega, by omega, HB.out⟩
            · have a1 : (57 : Int) < (s[0].toNat : Int) := by omega
              have a2 : (48 : Int) ≤ (s[0].toNat : Int) := by omega
              clear hA
              go_wp2
              go_step3
              exact ⟨rfl, 0, 0, false, ⟨_, _, _, _, _, _, _, _, _, _, _, _, _, _, _, _, _, _, _, _, _, _, _, _, _, _, _, _, _, _, _, _, _, _, _, _, _, _, _, _, _, _, _, _, _, _, _, _, _, _, _, _, _, _, _, _, _, _, _, _, _, _, _, _, _, _, _, _, _, _, _, _, _, _, _, _, rfl⟩, by omega, by omega, HB.out⟩
          · have HB := Lib.hid (show scan s.data.toList = sgn false (digs (s[0].toNat - 48) (s.data.toList.drop (0 + 1))) by rw [HE.out, HZ.out, digs_ok 0 hp (by omega), Nat.mul_zero, Nat.zero_add])
            have a1 : (s[0].toNat : Int) ≤ 57 := by omega
            have a2 : (48 : Int) ≤ (s[0].toNat : Int) := by omega
            have HA := Lib.hid hA
            clear hA
            go_wp2
            rw [show ((s[0].toNat : Int) - (48 : Int)) = ((s[0].toNat - 48 : Nat) : Int) from by have := HA.out; omega]
            go_step3
            exact ⟨rfl, s[0].toNat - 48, 0 + 1, false, ⟨_, _, _, _, _, _, _, _, _, _, _, _, _, _, _, _, _, _, _, _, _, _, _, _, _, _, _, _, _, _, _, _, _, _, _, _, _, _, _, _, _, _, _, _, _, _, _, _, _, _, _, _, _, _, _, _, _, _, _, _, _, _, _, _, _, _, _, _, _, _, _, _, _, _, _, _, rfl⟩, by omega, by have := HA.out; omega, HB.out⟩
  · rintro a W ⟨rfl, sz, i, below, ⟨u1, u2, u3, u7, u8, u9, u10, u11, u12, u13, u14, u15, u16, u17, u18, u19, u20, u21, u22, u23, u24, u25, u26, u27, u28, u29, u30, u31, u32, u33, u34, u35, u36, u37, u38, u39, u40, u41, u42, u43, u44, u45, u46, u47, u48, u49, u50, u51, u52, u53, u54, u55, u56, u57, u58, u59, u60, u61, u62, u63, u64, u65, u66, u67, u68, u69, u70, u71, u72, u73, u74, u75, u76, u77, u78, u79, rfl⟩, hi, hz, hsc⟩
    have HE := Lib.hid hsc
    clear hsc
    go_wp2
    simp only [Exit.jumps]
    go_ret2
    exact ⟨by rw [HE.out]; rfl, rfl⟩
  · rintro a W ⟨rfl, sz, i, below, ⟨u1, u2, u3, u7, u8, u9, u10, u11, u12, u13, u14, u15, u16, u17, u18, u19, u20, u21, u22, u23, u24, u25, u26, u27, u28, u29, u30, u31, u32, u33, u34, u35, u36, u37, u38, u39, u40, u41, u42, u43, u44, u45, u46, u47, u48, u49, u50, u51, u52, u53, u54, u55, u56, u57, u58, u59, u60, u61, u62, u63, u64, u65, u66, u67, u68, u69, u70, u71, u72, u73, u74, u75, u76, u77, u78, u79, rfl⟩, hi, hz, rfl, rfl, hsc⟩
    by_cases h1 : i < s.size
    · have k1 : (i : Int) < (s.size : Int) := by omega
      have HE := Lib.hid (show scan s.data.toList = none by rw [hsc, if_pos h1])
      clear hsc
      go_wp2
      go_step3
      exact ⟨⟨rfl, 0, i, false, ⟨_, _, _, _, _, _, _, _, _, _, _, _, _, _, _, _, _, _, _, _, _, _, _, _, _, _, _, _, _, _, _, _, _, _, _, _, _, _, _, _, _, _, _, _, _, _, _, _, _, _, _, _, _, _, _, _, _, _, _, _, _, _, _, _, _, _, _, _, _, _, _, _, _, _, _, _, rfl⟩, by omega, by omega, HE.out⟩, by simp [mu]⟩
    · have k1 : (s.size : Int) ≤ (i : Int) := by omega
      have HE := Lib.hid (show scan s.data.toList = some 0 by rw [hsc, if_neg h1])
      clear hsc
      go_wp2
      go_step3
      go_wp2
      simp only [Exit.jumps]
      go_ret2
      exact ⟨by rw [HE.out]; rfl, rfl⟩
  · rintro a W ⟨rfl, sz, i, below, ⟨u1, u2, u3, u7, u8, u9, u10, u11, u12, u13, u14, u15, u16, u17, u18, u19, u20, u21, u22, u23, u24, u25, u26, u27, u28, u29, u30, u31, u32, u33, u34, u35, u36, u37, u38, u39, u40, u41, u42, u43, u44, u45, u46, u47, u48, u49, u50, u51, u52, u53, u54, u55, u56, u57, u58, u59, u60, u61, u62, u63, u64, u65, u66, u67, u68, u69, u70, u71, u72, u73, u74, u75, u76, u77, u78, u79, rfl⟩, hi, hz, hsc⟩
    cases below
    · by_cases h1 : sz < 9223372036854775808
      · have k1 : (sz : Int) < 9223372036854775808 := by omega
        have HE := Lib.hid (show scan s.data.toList = some (sz : Int) by rw [hsc]; exact if_pos h1)
        have e := Lib.hid (show wrap64 (sz : Int) = (sz : Int) by simp only [wrap64]; omega)
        clear hsc h1
        go_wp2
        simp only [Exit.jumps]
        go_ret2
        refine ⟨?_, rfl⟩
        rw [HE.out]
        first
          | (show Ending.returned (.tuple #[.int .i64 (wrap64 (sz : Int)), .bool true]) = Ending.returned (.tuple #[.int .i64 (sz : Int), .bool true]); rw [e.out])
          | (show Ending.returned (.tuple #[.int .i64 (sz : Int), .bool true]) = Ending.returned (.tuple #[.int .i64 (sz : Int), .bool true]); rfl)
      · have k1 : decide ((sz : Int) < 9223372036854775808) = false := by rw [decide_eq_false_iff_not]; omega
        have HE := Lib.hid (show scan s.data.toList = none by rw [hsc]; exact if_neg h1)
        clear hsc h1
        go_wp2
        go_step3
        go_wp2
        simp only [Exit.jumps]
        go_ret2
        exact ⟨by rw [HE.out]; rfl, rfl⟩
    · by_cases h1 : sz ≤ 9223372036854775808
      · have k1 : (sz : Int) ≤ 9223372036854775808 := by omega
        have HE := Lib.hid (show scan s.data.toList = some (-(sz : Int)) by rw [hsc]; exact if_pos h1)
        have e := Lib.hid (show wrap64 (-wrap64 (sz : Int)) = -(sz : Int) by simp only [wrap64]; omega)
        clear hsc h1
        go_wp2
        simp only [Exit.jumps]
        go_ret2
        refine ⟨?_, rfl⟩
        rw [HE.out]
        show Ending.returned (.tuple #[.int .i64 (wrap64 (-wrap64 (sz : Int))), .bool true]) = Ending.returned (.tuple #[.int .i64 (-(sz : Int)), .bool true])
        rw [e.out]
      · have k1 : (9223372036854775808 : Int) < (sz : Int) := by omega
        have HE := Lib.hid (show scan s.data.toList = none by rw [hsc]; exact if_neg h1)
        clear hsc h1
        go_wp2
        go_step3
        go_wp2
        simp only [Exit.jumps]
        go_ret2
        exact ⟨by rw [HE.out]; rfl, rfl⟩
  · rintro a W ⟨rfl, sz, i, below, ⟨u1, u2, u3, u7, u8, u9, u10, u11, u12, u13, u14, u15, u16, u17, u18, u19, u20, u21, u22, u23, u24, u25, u26, u27, u28, u29, u30, u31, u32, u33, u34, u35, u36, u37, u38, u39, u40, u41, u42, u43, u44, u45, u46, u47, u48, u49, u50, u51, u52, u53, u54, u55, u56, u57, u58, u59, u60, u61, u62, u63, u64, u65, u66, u67, u68, u69, u70, u71, u72, u73, u74, u75, u76, u77, u78, u79, rfl⟩, hi, hz, hsc⟩
    by_cases h1 : i < s.size
    · have k1 : (i : Int) < (s.size : Int) := by omega
      have k0 : (0 : Int) ≤ (i : Int) := by omega
      have b1 : ((i : Int) == (s.size : Int)) = false := by rw [beq_eq_false_iff_ne]; omega
      by_cases hA : s[i].toNat < 48 ∨ 57 < s[i].toNat ∨ 922337203685477580 < sz
      · have HB := Lib.hid (show scan s.data.toList = none by rw [hsc, digs_bad sz h1 hA]; rfl)
        clear hsc
        by_cases hC : s[i].toNat < 48
        · have a1 : (s[i].toNat : Int) < 48 := by omega
          clear hA hC
          go_wp2
          go_step3
          exact ⟨⟨rfl, sz, i, below, ⟨_, _, _, _, _, _, _, _, _, _, _, _, _, _, _, _, _, _, _, _, _, _, _, _, _, _, _, _, _, _, _, _, _, _, _, _, _, _, _, _, _, _, _, _, _, _, _, _, _, _, _, _, _, _, _, _, _, _, _, _, _, _, _, _, _, _, _, _, _, _, _, _, _, _, _, _, rfl⟩, by omega, by omega, HB.out⟩, by show 1 < 10 + _; omega⟩
        · by_cases hD : 57 < s[i].toNat
          · have a1 : (57 : Int) < (s[i].toNat : Int) := by omega
            have a2 : (48 : Int) ≤ (s[i].toNat : Int) := by omega
            clear hA hC hD
            go_wp2
            go_step3
            exact ⟨⟨rfl, sz, i, below, ⟨_, _, _, _, _, _, _, _, _, _, _, _, _, _, _, _, _, _, _, _, _, _, _, _, _, _, _, _, _, _, _, _, _, _, _, _, _, _, _, _, _, _, _, _, _, _, _, _, _, _, _, _, _, _, _, _, _, _, _, _, _, _, _, _, _, _, _, _, _, _, _, _, _, _, _, _, rfl⟩, by omega, by omega, HB.out⟩, by show 1 < 10 + _; omega⟩
          · have a1 : (s[i].toNat : Int) ≤ 57 := by omega
            have a2 : (48 : Int) ≤ (s[i].toNat : Int) := by omega
            have a3 : (922337203685477580 : Int) < (sz : Int) := by omega
            clear hA hC hD
            go_wp2
            go_step3
            exact ⟨⟨rfl, sz, i, below, ⟨_, _, _, _, _, _, _, _, _, _, _, _, _, _, _, _, _, _, _, _, _, _, _, _, _, _, _, _, _, _, _, _, _, _, _, _, _, _, _, _, _, _, _, _, _, _, _, _, _, _, _, _, _, _, _, _, _, _, _, _, _, _, _, _, _, _, _, _, _, _, _, _, _, _, _, _, rfl⟩, by omega, by omega, HB.out⟩, by show 1 < 10 + _; omega⟩
      · have HB := Lib.hid (show scan s.data.toList = sgn below (digs (10 * sz + (s[i].toNat - 48)) (s.data.toList.drop (i + 1))) by rw [hsc, digs_ok sz h1 hA])
        have a1 : (s[i].toNat : Int) ≤ 57 := by omega
        have a2 : (48 : Int) ≤ (s[i].toNat : Int) := by omega
        have a3 : (sz : Int) ≤ 922337203685477580 := by omega
        have HA := Lib.hid hA
        have a4 : (0 : Int) ≤ (sz : Int) := by omega
        have a5 : (i : Int) ≤ 4294967296 := by omega
        clear hA hsc
        go_wp2
        rw [show (10 * (sz : Int) + ((s[i].toNat : Int) - (48 : Int))) = ((10 * sz + (s[i].toNat - 48) : Nat) : Int) from by have := HA.out; omega, show ((i : Int) + (1 : Int)) = ((i + 1 : Nat) : Int) from rfl]
        go_step3
        exact ⟨⟨rfl, 10 * sz + (s[i].toNat - 48), i + 1, below, ⟨_, _, _, _, _, _, _, _, _, _, _, _, _, _, _, _, _, _, _, _, _, _, _, _, _, _, _, _, _, _, _, _, _, _, _, _, _, _, _, _, _, _, _, _, _, _, _, _, _, _, _, _, _, _, _, _, _, _, _, _, _, _, _, _, _, _, _, _, _, _, _, _, _, _, _, _, rfl⟩, by omega, by have := HA.out; omega, HB.out⟩, by show 10 + (s.size - (((i + 1 : Nat) : Int)).toNat) < 10 + (s.size - (((i : Nat) : Int)).toNat); omega⟩
    · obtain rfl : i = s.size := by omega
      have HE := Lib.hid (show scan s.data.toList = sgn below (some sz) by rw [hsc, digs_end sz h1])
      clear hsc h1
      go_wp2
      go_step3
      exact ⟨⟨rfl, sz, s.size, below, ⟨_, _, _, _, _, _, _, _, _, _, _, _, _, _, _, _, _, _, _, _, _, _, _, _, _, _, _, _, _, _, _, _, _, _, _, _, _, _, _, _, _, _, _, _, _, _, _, _, _, _, _, _, _, _, _, _, _, _, _, _, _, _, _, _, _, _, _, _, _, _, _, _, _, _, _, _, rfl⟩, by omega, by omega, HE.out⟩, by show 2 < 10 + _; omega⟩
end Sc
end Go.Proofs.YtbpgpjibljgiiaaGreatDoor
