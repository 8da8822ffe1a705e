/-
  Ways: Way of both.
-/
import Derived.Test.YtgoolkgjcmdilaaDoorSpd
import Derived.Test.YtgoolkgjcmdilaaDoorRdF
namespace Go.Proofs.YtgoolkgjcmdilaaDoor
open Go.RowKit Flo
set_option linter.unusedVariables false
set_option linter.unusedSimpArgs false
attribute [local go_sem] Oper.semAt_some

/-- A point's cells. -/
def encP (p : Int × Int) : List Value := [.int .i32 p.1, .int .i32 p.2]
theorem encP_len (p : Int × Int) : (encP p).length = 2 := rfl
theorem encP_one (p : Int × Int) : ∀ u ∈ encP p, u.oneCell' = true := by
  intro u hu
  simp [encP] at hu
  rcases hu with rfl | rfl <;> rfl
/-- A slice of points. -/
def PtS (w : World) (v : Value) (l : List (Int × Int)) : Prop := RdF w v l.length 2 (l.flatMap encP) ∧ ∀ p ∈ l, I32 p.1 ∧ I32 p.2
theorem PtS.grow {w w' : World} {v : Value} {l : List (Int × Int)} (h : PtS w v l) (hf : Fr [] w w') : PtS w' v l := ⟨h.1.grow hf, h.2⟩
/-- The way so far: its first k + 1 points. -/
def WayR (l : List (Int × Int)) : Nat → Nat → Prop
  | 0, r => r = 0
  | k + 1, r => ∃ s d a b, WayR l k s ∧ l[k]? = some a ∧ l[k + 1]? = some b ∧ DistR (dAbs a.1 b.1) (dAbs a.2 b.2) d ∧ Gives (Ieee.double.add s d) r
theorem wayR_fe {l : List (Int × Int)} : ∀ {k r r' : Nat}, WayR l k r → WayR l k r' → FE r r'
  | 0, r, r', h, h' => by
    have h : r = 0 := h
    have h' : r' = 0 := h'
    rw [h, h']; exact FE.refl _
  | k + 1, r, r', ⟨s, d, a, b, h1, h2, h3, h4, h5⟩, ⟨s', d', a', b', k1, k2, k3, k4, k5⟩ => by
    have ea : a = a' := by rw [h2] at k2; exact Option.some.inj k2
    have eb : b = b' := by rw [h3] at k3; exact Option.some.inj k3
    subst ea eb
    exact add_fe (wayR_fe h1 k1) (h4.fe k4) h5 k5
def WayPost (l : List (Int × Int)) (w : World) (e : Ending) (w' : World) : Prop := FRes (WayR l (l.length - 1)) w e w'
set_option maxRecDepth 100000 in
set_option maxHeartbeats 400000 in
theorem way_any (w : World) (v : Value) (l : List (Int × Int)) (hl : PtS w v l) (hs : l.length ≤ 17592186044416) : Calls Tryd.prog 45 #[v] w (WayPost l w) := by
  obtain ⟨p, cap, rfl, hc1, hc2⟩ := hl.1.form
  clear hc2
  obtain ⟨n, hn⟩ : ∃ n, n = l.length := ⟨_, rfl⟩
  rw [← hn] at hc1
  rw [← hn] at hl hs ⊢
  have hs : (n : Int) ≤ 17592186044416 := by omega
  have HN := Lib.hid hn
  have HL := Lib.hid hl
  clear hl hn
  go_enter Tryd.func45, Tryd.ntmps45
  go_wp2
  go_loopw [3, 4] (fun s i wr => ∃ k r : Nat, (n = 0 ∧ k = 0 ∨ k < n) ∧ i = .int .i64 ((k : Int) + 1) ∧ s = .float .f64 r ∧ WayR l k r ∧ Fr [] w wr) (fun _ i _ => n - (intOf i).toNat)
  case atStart => exact ⟨0, 0, by omega, by rfl, rfl, rfl, Fr.refl _ _⟩
  case round =>
    obtain ⟨k, s, hk, rfl, rfl, hs, hf⟩ := hrel
    have hkb := Lib.hid (show (k : Int) ≤ 17592186044416 by omega)
    have HP := Lib.hid (And.intro hs (And.intro hk hf))
    clear hs hf hk
    by_cases hlt : k + 1 < n
    · obtain ⟨a, ha⟩ : ∃ a, l[k]? = some a := ⟨_, List.getElem?_eq_getElem (by have := HN.out; omega)⟩
      obtain ⟨b, hb⟩ : ∃ b, l[k + 1]? = some b := ⟨_, List.getElem?_eq_getElem (by have := HN.out; omega)⟩
      have hl := HL.out.grow HP.out.2.2
      obtain ⟨g, o, cp, hv, -, -, hA⟩ := RdF.at encP encP_len hl.1 ha
      obtain ⟨g2, o2, cp2, hv2, -, -, hB⟩ := RdF.at encP encP_len hl.1 hb
      have e2 := (Value.slice.inj (hv.symm.trans hv2)).1
      obtain rfl := (Value.slice.inj hv).1
      cases e2
      clear hv hv2
      have a0 := hA 0 _ rfl
      have a1 := hA 1 _ rfl
      have b0 := hB 0 _ rfl
      have b1 := hB 1 _ rfl
      rw [Nat.add_zero] at a0 b0
      rw [← Nat.add_assoc] at a1 b1
      have i1 := hl.2 a (List.mem_of_getElem? ha)
      have i2 := hl.2 b (List.mem_of_getElem? hb)
      have HC := Lib.hid (fun w => dist_any w a.1 a.2 b.1 b.2 i1.1 i1.2 i2.1 i2.2)
      have HA := Lib.hid (And.intro (World.block_lt_of_cell? _ _ a0) (And.intro a0 (And.intro a1 (And.intro b0 b1))))
      have HR := Lib.hid (show ∀ d z, DistR (dAbs a.1 b.1) (dAbs a.2 b.2) d → Gives (Ieee.double.add s d) z → WayR l (k + 1) z from fun d z h1 h2 => ⟨s, d, a, b, HP.out.1, ha, hb, h1, h2⟩)
      clear hA hB a0 a1 b0 b1 i1 i2 hl ha hb
      obtain ⟨R1, hR1⟩ : ∃ R1, DistR (dAbs a.1 b.1) (dAbs a.2 b.2) = R1 := ⟨_, rfl⟩
      obtain ⟨R2, hR2⟩ : ∃ R2 : Nat → Prop, (fun z => WayR l (k + 1) z) = R2 := ⟨_, rfl⟩
      have HR2 := Lib.hid (show ∀ d z, R1 d → Gives (Ieee.double.add s d) z → R2 z from fun d z h1 h2 => by rw [← hR2]; rw [← hR1] at h1; exact HR.out d z h1 h2)
      have HR3 := Lib.hid (show ∀ z, R2 z → WayR l (k + 1) z from fun z h => by rw [← hR2] at h; exact h)
      rw [hR1] at HC
      clear hR1 hR2 HR
      go_wp2_with fail
      have k1 : IntKind.i64.wrap ((k : Int) + 1) = (k : Int) + 1 := IntWalk.i64_in _ (by omega)
      have k2 : 0 ≤ (k : Int) + 1 := by omega
      have k3 : ((k : Int) + 1).toNat = k + 1 := by omega
      have k6 : k < n := by omega
      have k4 : IntKind.i64.wrap (k : Int) = (k : Int) := IntWalk.i64_in _ (by omega)
      refine region_grow (by kernel_rfl) (by kernel_rfl) [.is (.float .f64 s), .is (.slice (some ⟨g, o, none⟩) n cap), .is (.int .i64 ((k : Int) + 1)), .is (.int .i64 (k : Int)), .is (.pointer (some ⟨g, o + k * 2, none⟩)), .is (.agg #[.int .i32 a.1, .int .i32 a.2]), .is (.slice (some ⟨g, o, none⟩) n cap), .is (.int .i64 ((k : Int) + 1)), .is (.pointer (some ⟨g, o + (k + 1) * 2, none⟩)), .is (.agg #[.int .i32 b.1, .int .i32 b.2]), .flo R1, .flo R2, .flo R2] 24 rfl (by kernel_rfl) [(0, 11), (1, 12), (2, 13), (3, 14), (4, 15), (5, 16), (6, 17), (7, 18), (8, 19), (9, 20), (10, 21), (11, 22), (12, 3)] (by kernel_rfl) ?_ ?_
      · intro q a1 W1 i hi hnq hd hG K hK
        have hlt : i < 13 := hi
        have hc : i = 0 ∨ i = 1 ∨ i = 2 ∨ i = 3 ∨ i = 4 ∨ i = 5 ∨ i = 6 ∨ i = 7 ∨ i = 8 ∨ i = 9 ∨ i = 10 ∨ i = 11 ∨ i = 12 := by omega
        rcases hc with rfl | rfl | rfl | rfl | rfl | rfl | rfl | rfl | rfl | rfl | rfl | rfl | rfl
        · have e3 := hG.yet 24 (by kernel_rfl) 3 12 (by decide) rfl (fun h => hnq (hG.closed 12 h _ rfl ⟨0, .phase⟩ (by simp) rfl))
          refine op_do rfl (wanted_none rfl) hK (fun K' hK' => ?_)
          unfold Oper.wp
          go_simp
          exact hK' _ _ (Fr.refl _ _) rfl
        · have e0 := hG.old 0 (by kernel_rfl)
          refine op_do rfl (wanted_none rfl) hK (fun K' hK' => ?_)
          unfold Oper.wp
          go_simp
          exact hK' _ _ (Fr.refl _ _) rfl
        · have e4 := hG.old 4 (by kernel_rfl)
          refine op_do rfl (wanted_none rfl) hK (fun K' hK' => ?_)
          unfold Oper.wp
          go_simp
          exact hK' _ _ (Fr.refl _ _) rfl
        · have e13 := hG.val (v := .int .i64 ((k : Int) + 1)) 2 13 (hd _ rfl ⟨2, .data⟩ (by simp) rfl) rfl rfl
          refine op_do rfl (wanted_none rfl) hK (fun K' hK' => ?_)
          unfold Oper.wp
          go_simp
          exact hK' _ _ (Fr.refl _ _) rfl
        · have e12 := hG.val (v := .slice (some ⟨g, o, none⟩) n cap) 1 12 (hd _ rfl ⟨1, .data⟩ (by simp) rfl) rfl rfl
          have e14 := hG.val (v := .int .i64 (k : Int)) 3 14 (hd _ rfl ⟨3, .data⟩ (by simp) rfl) rfl rfl
          refine op_do rfl (wanted_none rfl) hK (fun K' hK' => ?_)
          unfold Oper.wp
          go_simp
          exact hK' _ _ (Fr.refl _ _) rfl
        · have e15 := hG.val (v := .pointer (some ⟨g, o + k * 2, none⟩)) 4 15 (hd _ rfl ⟨4, .data⟩ (by simp) rfl) rfl rfl
          have c0 := (hG.grown.cell (a := ⟨g, o + k * 2, none⟩) HA.out.1 (by simp)).trans HA.out.2.1
          have c1 := (hG.grown.cell (a := ⟨g, o + k * 2 + 1, none⟩) HA.out.1 (by simp)).trans HA.out.2.2.1
          refine op_do rfl (wanted_none rfl) hK (fun K' hK' => ?_)
          unfold Oper.wp
          go_simp
          exact hK' _ _ (Fr.refl _ _) rfl
        · have e0 := hG.old 0 (by kernel_rfl)
          refine op_do rfl (wanted_none rfl) hK (fun K' hK' => ?_)
          unfold Oper.wp
          go_simp
          exact hK' _ _ (Fr.refl _ _) rfl
        · have e4 := hG.old 4 (by kernel_rfl)
          refine op_do rfl (wanted_none rfl) hK (fun K' hK' => ?_)
          unfold Oper.wp
          go_simp
          exact hK' _ _ (Fr.refl _ _) rfl
        · have e17 := hG.val (v := .slice (some ⟨g, o, none⟩) n cap) 6 17 (hd _ rfl ⟨6, .data⟩ (by simp) rfl) rfl rfl
          have e18 := hG.val (v := .int .i64 ((k : Int) + 1)) 7 18 (hd _ rfl ⟨7, .data⟩ (by simp) rfl) rfl rfl
          refine op_do rfl (wanted_none rfl) hK (fun K' hK' => ?_)
          unfold Oper.wp
          go_simp
          exact hK' _ _ (Fr.refl _ _) rfl
        · have e19 := hG.val (v := .pointer (some ⟨g, o + (k + 1) * 2, none⟩)) 8 19 (hd _ rfl ⟨8, .data⟩ (by simp) rfl) rfl rfl
          have c0 := (hG.grown.cell (a := ⟨g, o + (k + 1) * 2, none⟩) HA.out.1 (by simp)).trans HA.out.2.2.2.1
          have c1 := (hG.grown.cell (a := ⟨g, o + (k + 1) * 2 + 1, none⟩) HA.out.1 (by simp)).trans HA.out.2.2.2.2
          refine op_do rfl (wanted_none rfl) hK (fun K' hK' => ?_)
          unfold Oper.wp
          go_simp
          exact hK' _ _ (Fr.refl _ _) rfl
        · have e16 := hG.val (v := .agg #[.int .i32 a.1, .int .i32 a.2]) 5 16 (hd _ rfl ⟨5, .data⟩ (by simp) rfl) rfl rfl
          have e20 := hG.val (v := .agg #[.int .i32 b.1, .int .i32 b.2]) 9 20 (hd _ rfl ⟨9, .data⟩ (by simp) rfl) rfl rfl
          refine op_do rfl (wanted_none rfl) hK (fun K' hK' => ?_)
          unfold Oper.wp
          go_simp
          refine (HC.out _).mono ?_
          rintro e W2 ⟨r, rfl, hr, f2⟩
          exact hK' _ _ f2 ⟨r, rfl, hr⟩
        · have e11 := hG.val (v := .float .f64 s) 0 11 (hd _ rfl ⟨0, .data⟩ (by simp) rfl) rfl rfl
          obtain ⟨u10, e21, s10⟩ := hG.get 10 21 (hd _ rfl ⟨10, .data⟩ (by simp) rfl) rfl; obtain ⟨r, hr, s10⟩ := s10; subst hr
          refine op_do rfl (wanted_none rfl) hK (fun K' hK' => ?_)
          unfold Oper.wp
          go_simp
          exact hK' _ _ ((Fr.refl _ _).addW _ _) ⟨_, rfl, HR2.out _ _ s10 (addV_gives _ _ _)⟩
        · obtain ⟨u11, e22, s11⟩ := hG.get 11 22 (hd _ rfl ⟨11, .data⟩ (by simp) rfl) rfl; obtain ⟨r, hr, s11⟩ := s11; subst hr
          refine op_do rfl (wanted_none rfl) hK (fun K' hK' => ?_)
          unfold Oper.wp
          go_simp
          exact hK' _ _ (Fr.refl _ _) ⟨_, rfl, s11⟩
      · intro vs W1 f1 hv
        have r0 : vs 0 = .float .f64 s := hv 0 11 (by decide) rfl
        have r1 : vs 1 = .slice (some ⟨g, o, none⟩) n cap := hv 1 12 (by decide) rfl
        have r2 : vs 2 = .int .i64 ((k : Int) + 1) := hv 2 13 (by decide) rfl
        have r3 : vs 3 = .int .i64 (k : Int) := hv 3 14 (by decide) rfl
        have r4 : vs 4 = .pointer (some ⟨g, o + k * 2, none⟩) := hv 4 15 (by decide) rfl
        have r5 : vs 5 = .agg #[.int .i32 a.1, .int .i32 a.2] := hv 5 16 (by decide) rfl
        have r6 : vs 6 = .slice (some ⟨g, o, none⟩) n cap := hv 6 17 (by decide) rfl
        have r7 : vs 7 = .int .i64 ((k : Int) + 1) := hv 7 18 (by decide) rfl
        have r8 : vs 8 = .pointer (some ⟨g, o + (k + 1) * 2, none⟩) := hv 8 19 (by decide) rfl
        have r9 : vs 9 = .agg #[.int .i32 b.1, .int .i32 b.2] := hv 9 20 (by decide) rfl
        have r10 := hv 10 21 (by decide) rfl
        have r11 := hv 11 22 (by decide) rfl
        have r12 := hv 12 3 (by decide) rfl
        simp only [lay, List.foldl_cons, List.foldl_nil, r0, r1, r2, r3, r4, r5, r6, r7, r8, r9]
        simp only [List.setIfInBounds_toArray, List.set_cons_zero, List.set_cons_succ]
        clear hv r0 r1 r2 r3 r4 r5 r6 r7 r8 r9
        generalize vs 10 = x10 at *
        generalize vs 11 = x11 at *
        generalize vs 12 = x12 at *
        obtain ⟨q1, h1q, r10⟩ := r10
        obtain ⟨q2, h2q, r11⟩ := r11
        obtain ⟨z, hz, r12⟩ := r12
        subst h1q h2q hz
        have HV := Lib.hid (And.intro r12 f1)
        clear r10 r11 r12 f1 k1 k2 k3 k4 k6
        go_wp2
        go_roundw
        case rel => exact ⟨k + 1, z, by omega, by go_num, rfl, HR3.out z HV.out.1, HP.out.2.2.trans HV.out.2 (by simp)⟩
        case measure => simp [intOf]; omega
    · have k1 : IntKind.i64.wrap ((k : Int) + 1) = (k : Int) + 1 := IntWalk.i64_in _ (by have := hkb.out; omega)
      have k5 : wrap64 ((k : Int) + 1) = (k : Int) + 1 := IntWalk.wrap64_in _ (by have := hkb.out; omega)
      go_wp2
      go_ret
      obtain ⟨h1, h2, h3⟩ := HP.out
      refine ⟨_, rfl, ?_, h3⟩
      rw [← HN.out, show n - 1 = k by omega]
      exact h1
set_option maxRecDepth 100000 in
set_option maxHeartbeats 400000 in
theorem rway_any (w : World) (v : Value) (l : List (Int × Int)) (hl : PtS w v l) (hs : l.length ≤ 17592186044416) : Calls Tryd.prog 48 #[v] w (WayPost l w) := by
  obtain ⟨p, cap, rfl, hc1, hc2⟩ := hl.1.form
  clear hc2
  obtain ⟨n, hn⟩ : ∃ n, n = l.length := ⟨_, rfl⟩
  rw [← hn] at hc1
  rw [← hn] at hl hs ⊢
  have hs : (n : Int) ≤ 17592186044416 := by omega
  have HN := Lib.hid hn
  have HL := Lib.hid hl
  clear hl hn
  go_enter Tryd.func48, Tryd.ntmps48
  go_wp2
  go_loopw [3, 4] (fun s i wr => ∃ k r : Nat, (n = 0 ∧ k = 0 ∨ k < n) ∧ i = .int .i64 (k : Int) ∧ s = .float .f64 r ∧ WayR l k r ∧ Fr [] w wr) (fun _ i _ => n - (intOf i).toNat)
  case atStart => exact ⟨0, 0, by omega, by rfl, rfl, rfl, Fr.refl _ _⟩
  case round =>
    obtain ⟨k, s, hk, rfl, rfl, hs, hf⟩ := hrel
    have hkb := Lib.hid (show (k : Int) ≤ 17592186044416 by omega)
    have HP := Lib.hid (And.intro hs (And.intro hk hf))
    clear hs hf hk
    by_cases hlt : k + 1 < n
    · obtain ⟨a, ha⟩ : ∃ a, l[k]? = some a := ⟨_, List.getElem?_eq_getElem (by have := HN.out; omega)⟩
      obtain ⟨b, hb⟩ : ∃ b, l[k + 1]? = some b := ⟨_, List.getElem?_eq_getElem (by have := HN.out; omega)⟩
      have hl := HL.out.grow HP.out.2.2
      obtain ⟨g, o, cp, hv, -, -, hA⟩ := RdF.at encP encP_len hl.1 ha
      obtain ⟨g2, o2, cp2, hv2, -, -, hB⟩ := RdF.at encP encP_len hl.1 hb
      have e2 := (Value.slice.inj (hv.symm.trans hv2)).1
      obtain rfl := (Value.slice.inj hv).1
      cases e2
      clear hv hv2
      have a0 := hA 0 _ rfl
      have a1 := hA 1 _ rfl
      have b0 := hB 0 _ rfl
      have b1 := hB 1 _ rfl
      rw [Nat.add_zero] at a0 b0
      rw [← Nat.add_assoc] at a1 b1
      have i1 := hl.2 a (List.mem_of_getElem? ha)
      have i2 := hl.2 b (List.mem_of_getElem? hb)
      have HC := Lib.hid (fun w => refDist_any w a.1 a.2 b.1 b.2 i1.1 i1.2 i2.1 i2.2)
      have HA := Lib.hid (And.intro (World.block_lt_of_cell? _ _ a0) (And.intro a0 (And.intro a1 (And.intro b0 b1))))
      have HR := Lib.hid (show ∀ d z, DistR (dAbs a.1 b.1) (dAbs a.2 b.2) d → Gives (Ieee.double.add s d) z → WayR l (k + 1) z from fun d z h1 h2 => ⟨s, d, a, b, HP.out.1, ha, hb, h1, h2⟩)
      clear hA hB a0 a1 b0 b1 i1 i2 hl ha hb
      obtain ⟨R1, hR1⟩ : ∃ R1, DistR (dAbs a.1 b.1) (dAbs a.2 b.2) = R1 := ⟨_, rfl⟩
      obtain ⟨R2, hR2⟩ : ∃ R2 : Nat → Prop, (fun z => WayR l (k + 1) z) = R2 := ⟨_, rfl⟩
      have HR2 := Lib.hid (show ∀ d z, R1 d → Gives (Ieee.double.add s d) z → R2 z from fun d z h1 h2 => by rw [← hR2]; rw [← hR1] at h1; exact HR.out d z h1 h2)
      have HR3 := Lib.hid (show ∀ z, R2 z → WayR l (k + 1) z from fun z h => by rw [← hR2] at h; exact h)
      rw [hR1] at HC
      clear hR1 hR2 HR
      go_wp2_with fail
      have k1 : IntKind.i64.wrap ((k : Int) + 1) = (k : Int) + 1 := IntWalk.i64_in _ (by omega)
      have k2 : 0 ≤ (k : Int) + 1 := by omega
      have k3 : ((k : Int) + 1).toNat = k + 1 := by omega
      have k6 : k < n := by omega
      have k4 : IntKind.i64.wrap (k : Int) = (k : Int) := IntWalk.i64_in _ (by omega)
      refine region_grow (by kernel_rfl) (by kernel_rfl) [.is (.float .f64 s), .is (.slice (some ⟨g, o, none⟩) n cap), .is (.int .i64 (k : Int)), .is (.pointer (some ⟨g, o + k * 2, none⟩)), .is (.agg #[.int .i32 a.1, .int .i32 a.2]), .is (.slice (some ⟨g, o, none⟩) n cap), .is (.int .i64 (k : Int)), .is (.int .i64 ((k : Int) + 1)), .is (.pointer (some ⟨g, o + (k + 1) * 2, none⟩)), .is (.agg #[.int .i32 b.1, .int .i32 b.2]), .flo R1, .flo R2, .flo R2] 25 rfl (by kernel_rfl) [(0, 12), (1, 13), (2, 14), (3, 15), (4, 16), (5, 17), (6, 18), (7, 19), (8, 20), (9, 21), (10, 22), (11, 23), (12, 3)] (by kernel_rfl) ?_ ?_
      · intro q a1 W1 i hi hnq hd hG K hK
        have hlt : i < 13 := hi
        have hc : i = 0 ∨ i = 1 ∨ i = 2 ∨ i = 3 ∨ i = 4 ∨ i = 5 ∨ i = 6 ∨ i = 7 ∨ i = 8 ∨ i = 9 ∨ i = 10 ∨ i = 11 ∨ i = 12 := by omega
        rcases hc with rfl | rfl | rfl | rfl | rfl | rfl | rfl | rfl | rfl | rfl | rfl | rfl | rfl
        · have e3 := hG.yet 25 (by kernel_rfl) 3 12 (by decide) rfl (fun h => hnq (hG.closed 12 h _ rfl ⟨0, .phase⟩ (by simp) rfl))
          refine op_do rfl (wanted_none rfl) hK (fun K' hK' => ?_)
          unfold Oper.wp
          go_simp
          exact hK' _ _ (Fr.refl _ _) rfl
        · have e0 := hG.old 0 (by kernel_rfl)
          refine op_do rfl (wanted_none rfl) hK (fun K' hK' => ?_)
          unfold Oper.wp
          go_simp
          exact hK' _ _ (Fr.refl _ _) rfl
        · have e4 := hG.old 4 (by kernel_rfl)
          refine op_do rfl (wanted_none rfl) hK (fun K' hK' => ?_)
          unfold Oper.wp
          go_simp
          exact hK' _ _ (Fr.refl _ _) rfl
        · have e13 := hG.val (v := .slice (some ⟨g, o, none⟩) n cap) 1 13 (hd _ rfl ⟨1, .data⟩ (by simp) rfl) rfl rfl
          have e14 := hG.val (v := .int .i64 (k : Int)) 2 14 (hd _ rfl ⟨2, .data⟩ (by simp) rfl) rfl rfl
          refine op_do rfl (wanted_none rfl) hK (fun K' hK' => ?_)
          unfold Oper.wp
          go_simp
          exact hK' _ _ (Fr.refl _ _) rfl
        · have e15 := hG.val (v := .pointer (some ⟨g, o + k * 2, none⟩)) 3 15 (hd _ rfl ⟨3, .data⟩ (by simp) rfl) rfl rfl
          have c0 := (hG.grown.cell (a := ⟨g, o + k * 2, none⟩) HA.out.1 (by simp)).trans HA.out.2.1
          have c1 := (hG.grown.cell (a := ⟨g, o + k * 2 + 1, none⟩) HA.out.1 (by simp)).trans HA.out.2.2.1
          refine op_do rfl (wanted_none rfl) hK (fun K' hK' => ?_)
          unfold Oper.wp
          go_simp
          exact hK' _ _ (Fr.refl _ _) rfl
        · have e0 := hG.old 0 (by kernel_rfl)
          refine op_do rfl (wanted_none rfl) hK (fun K' hK' => ?_)
          unfold Oper.wp
          go_simp
          exact hK' _ _ (Fr.refl _ _) rfl
        · have e4 := hG.old 4 (by kernel_rfl)
          refine op_do rfl (wanted_none rfl) hK (fun K' hK' => ?_)
          unfold Oper.wp
          go_simp
          exact hK' _ _ (Fr.refl _ _) rfl
        · have e18 := hG.val (v := .int .i64 (k : Int)) 6 18 (hd _ rfl ⟨6, .data⟩ (by simp) rfl) rfl rfl
          refine op_do rfl (wanted_none rfl) hK (fun K' hK' => ?_)
          unfold Oper.wp
          go_simp
          exact hK' _ _ (Fr.refl _ _) rfl
        · have e17 := hG.val (v := .slice (some ⟨g, o, none⟩) n cap) 5 17 (hd _ rfl ⟨5, .data⟩ (by simp) rfl) rfl rfl
          have e19 := hG.val (v := .int .i64 ((k : Int) + 1)) 7 19 (hd _ rfl ⟨7, .data⟩ (by simp) rfl) rfl rfl
          refine op_do rfl (wanted_none rfl) hK (fun K' hK' => ?_)
          unfold Oper.wp
          go_simp
          exact hK' _ _ (Fr.refl _ _) rfl
        · have e20 := hG.val (v := .pointer (some ⟨g, o + (k + 1) * 2, none⟩)) 8 20 (hd _ rfl ⟨8, .data⟩ (by simp) rfl) rfl rfl
          have c0 := (hG.grown.cell (a := ⟨g, o + (k + 1) * 2, none⟩) HA.out.1 (by simp)).trans HA.out.2.2.2.1
          have c1 := (hG.grown.cell (a := ⟨g, o + (k + 1) * 2 + 1, none⟩) HA.out.1 (by simp)).trans HA.out.2.2.2.2
          refine op_do rfl (wanted_none rfl) hK (fun K' hK' => ?_)
          unfold Oper.wp
          go_simp
          exact hK' _ _ (Fr.refl _ _) rfl
        · have e16 := hG.val (v := .agg #[.int .i32 a.1, .int .i32 a.2]) 4 16 (hd _ rfl ⟨4, .data⟩ (by simp) rfl) rfl rfl
          have e21 := hG.val (v := .agg #[.int .i32 b.1, .int .i32 b.2]) 9 21 (hd _ rfl ⟨9, .data⟩ (by simp) rfl) rfl rfl
          refine op_do rfl (wanted_none rfl) hK (fun K' hK' => ?_)
          unfold Oper.wp
          go_simp
          refine (HC.out _).mono ?_
          rintro e W2 ⟨r, rfl, hr, f2⟩
          exact hK' _ _ f2 ⟨r, rfl, hr⟩
        · have e12 := hG.val (v := .float .f64 s) 0 12 (hd _ rfl ⟨0, .data⟩ (by simp) rfl) rfl rfl
          obtain ⟨u10, e22, s10⟩ := hG.get 10 22 (hd _ rfl ⟨10, .data⟩ (by simp) rfl) rfl; obtain ⟨r, hr, s10⟩ := s10; subst hr
          refine op_do rfl (wanted_none rfl) hK (fun K' hK' => ?_)
          unfold Oper.wp
          go_simp
          exact hK' _ _ ((Fr.refl _ _).addW _ _) ⟨_, rfl, HR2.out _ _ s10 (addV_gives _ _ _)⟩
        · obtain ⟨u11, e23, s11⟩ := hG.get 11 23 (hd _ rfl ⟨11, .data⟩ (by simp) rfl) rfl; obtain ⟨r, hr, s11⟩ := s11; subst hr
          refine op_do rfl (wanted_none rfl) hK (fun K' hK' => ?_)
          unfold Oper.wp
          go_simp
          exact hK' _ _ (Fr.refl _ _) ⟨_, rfl, s11⟩
      · intro vs W1 f1 hv
        have r0 : vs 0 = .float .f64 s := hv 0 12 (by decide) rfl
        have r1 : vs 1 = .slice (some ⟨g, o, none⟩) n cap := hv 1 13 (by decide) rfl
        have r2 : vs 2 = .int .i64 (k : Int) := hv 2 14 (by decide) rfl
        have r3 : vs 3 = .pointer (some ⟨g, o + k * 2, none⟩) := hv 3 15 (by decide) rfl
        have r4 : vs 4 = .agg #[.int .i32 a.1, .int .i32 a.2] := hv 4 16 (by decide) rfl
        have r5 : vs 5 = .slice (some ⟨g, o, none⟩) n cap := hv 5 17 (by decide) rfl
        have r6 : vs 6 = .int .i64 (k : Int) := hv 6 18 (by decide) rfl
        have r7 : vs 7 = .int .i64 ((k : Int) + 1) := hv 7 19 (by decide) rfl
        have r8 : vs 8 = .pointer (some ⟨g, o + (k + 1) * 2, none⟩) := hv 8 20 (by decide) rfl
        have r9 : vs 9 = .agg #[.int .i32 b.1, .int .i32 b.2] := hv 9 21 (by decide) rfl
        have r10 := hv 10 22 (by decide) rfl
        have r11 := hv 11 23 (by decide) rfl
        have r12 := hv 12 3 (by decide) rfl
        simp only [lay, List.foldl_cons, List.foldl_nil, r0, r1, r2, r3, r4, r5, r6, r7, r8, r9]
        simp only [List.setIfInBounds_toArray, List.set_cons_zero, List.set_cons_succ]
        clear hv r0 r1 r2 r3 r4 r5 r6 r7 r8 r9
        generalize vs 10 = x10 at *
        generalize vs 11 = x11 at *
        generalize vs 12 = x12 at *
        obtain ⟨q1, h1q, r10⟩ := r10
        obtain ⟨q2, h2q, r11⟩ := r11
        obtain ⟨z, hz, r12⟩ := r12
        subst h1q h2q hz
        have HV := Lib.hid (And.intro r12 f1)
        clear r10 r11 r12 f1 k1 k2 k3 k4 k6
        go_wp2
        go_roundw
        case rel => exact ⟨k + 1, z, by omega, by go_num, rfl, HR3.out z HV.out.1, HP.out.2.2.trans HV.out.2 (by simp)⟩
        case measure => simp [intOf]; omega
    · have k1 : IntKind.i64.wrap ((k : Int) + 1) = (k : Int) + 1 := IntWalk.i64_in _ (by have := hkb.out; omega)
      have k5 : wrap64 ((k : Int) + 1) = (k : Int) + 1 := IntWalk.wrap64_in _ (by have := hkb.out; omega)
      go_wp2
      go_ret
      obtain ⟨h1, h2, h3⟩ := HP.out
      refine ⟨_, rfl, ?_, h3⟩
      rw [← HN.out, show n - 1 = k by omega]
      exact h1
end Go.Proofs.YtgoolkgjcmdilaaDoor
