/-
  CellAll: of any point of a box its cell's square has it and no other's, the cover of two points' box has as many cells as it counts and the point's own, and the segment's cells are neighbours. For every input.
-/
import Derived.Test.YthagbhiblncpkaaSidE
import Derived.Test.YthagbhiblncpkaaSidF
import Derived.Test.YthagbhiblncpkaaCellZ
namespace Go.Proofs.Ythagbhiblncpkaa
open Go.RowKit Go.Shelf Go.ChangeShapes Go.WideShapes Go.ChangeAt
set_option linter.unusedVariables false
attribute [local go_sem] Oper.semAt_some

namespace cellAll
structure Rgn (t : Value → Value → Value → Value → Value → Value → Value → Value → Value → Value → Value → Value → Value → Value → Value → Value → Value → Value → Value → Value → Value → Value → Value → Value → Array Value) (w1 : World) (px py qx qy : Int) (z5 z6 : Nat) (m0 m1 n0 n1 : Int) (p : Nat → Prop) (x : Act) (w : World) : Prop where
  ex : ∃ x0 x1 x2 x3 x4 x5 x6 x7 x8 x9 x10 x11 x12 x13 x14 x15 x16 x17 x18 x19 x20 x21 x22 x23, x = { tmps := t x0 x1 x2 x3 x4 x5 x6 x7 x8 x9 x10 x11 x12 x13 x14 x15 x16 x17 x18 x19 x20 x21 x22 x23, defers := [] } ∧ (p 0 → x0 = .pointer (some ⟨z5, 0, none⟩)) ∧ (p 1 → x1 = .int .i32 px) ∧ (p 2 → x2 = .pointer (some ⟨z6, 0, none⟩)) ∧ (p 3 → x3 = .int .i32 qx) ∧ (p 4 → x4 = .int .i32 m0) ∧ (p 5 → x5 = .pointer (some ⟨z5, 1, none⟩)) ∧ (p 6 → x6 = .int .i32 py) ∧ (p 7 → x7 = .pointer (some ⟨z6, 1, none⟩)) ∧ (p 8 → x8 = .int .i32 qy) ∧ (p 9 → x9 = .int .i32 m1) ∧ (p 10 → x10 = .agg #[.int .i32 m0, .int .i32 m1]) ∧ (p 11 → x11 = .pointer (some ⟨z5, 0, none⟩)) ∧ (p 12 → x12 = .int .i32 px) ∧ (p 13 → x13 = .pointer (some ⟨z6, 0, none⟩)) ∧ (p 14 → x14 = .int .i32 qx) ∧ (p 15 → x15 = .int .i32 n0) ∧ (p 16 → x16 = .pointer (some ⟨z5, 1, none⟩)) ∧ (p 17 → x17 = .int .i32 py) ∧ (p 18 → x18 = .pointer (some ⟨z6, 1, none⟩)) ∧ (p 19 → x19 = .int .i32 qy) ∧ (p 20 → x20 = .int .i32 n1) ∧ (p 21 → x21 = .agg #[.int .i32 n0, .int .i32 n1]) ∧ (p 22 → x22 = .agg #[.int .i32 m0, .int .i32 m1, .int .i32 n0, .int .i32 n1]) ∧ (p 23 → ∃ z, x23 = .pointer (some ⟨z, 0, none⟩) ∧ w1.heap.size ≤ z ∧ ∃ ar, Blk w z ar 39 ∧ (ar = #[.int .i32 0, .int .i32 0, .int .i32 0, .int .i32 0] ∨ ar = #[.int .i32 m0, .int .i32 m1, .int .i32 n0, .int .i32 n1])) ∧ (p 24 → p 23 ∧ ∃ z, x23 = .pointer (some ⟨z, 0, none⟩) ∧ w1.heap.size ≤ z ∧ Blk w z #[.int .i32 m0, .int .i32 m1, .int .i32 n0, .int .i32 n1] 39)
  fr : Fr [] w1 w

set_option maxRecDepth 100000 in
set_option maxHeartbeats 8000000 in
theorem walk (w : World) (px py qx qy a b c d ex ey s : Int) (hpx : I32 px) (hpy : I32 py) (hqx : I32 qx) (hqy : I32 qy) (hex : I32 ex) (hey : I32 ey) : Calls Try.prog 6 #[.agg #[.int .i32 px, .int .i32 py, .int .i32 qx, .int .i32 qy, .int .i32 a, .int .i32 b, .int .i32 c, .int .i32 d, .int .i32 ex, .int .i32 ey], .int .i64 s] w fun e w' => e = .returned (.bool true) ∧ Fr [] w w' := by
  have hA := Blk.new w #[.int .i32 px, .int .i32 py, .int .i32 qx, .int .i32 qy, .int .i32 a, .int .i32 b, .int .i32 c, .int .i32 d, .int .i32 ex, .int .i32 ey] 41
  have FA : Fr [] w ((((w.alloc (.cells #[.int .i32 px, .int .i32 py, .int .i32 qx, .int .i32 qy, .int .i32 a, .int .i32 b, .int .i32 c, .int .i32 d, .int .i32 ex, .int .i32 ey] 41)).alloc (.cells #[.int .i32 px, .int .i32 py] 23)).alloc (.cells #[.int .i32 qx, .int .i32 qy] 23)).alloc (.cells #[.int .i32 ex, .int .i32 ey] 33)) := ((((Fr.refl [] w).alloc _).alloc _).alloc _).alloc _
  have h5 := ((Blk.new (w.alloc (.cells #[.int .i32 px, .int .i32 py, .int .i32 qx, .int .i32 qy, .int .i32 a, .int .i32 b, .int .i32 c, .int .i32 d, .int .i32 ex, .int .i32 ey] 41)) #[.int .i32 px, .int .i32 py] 23).alloc (.cells #[.int .i32 qx, .int .i32 qy] 23)).alloc (.cells #[.int .i32 ex, .int .i32 ey] 33)
  have h6 := (Blk.new ((w.alloc (.cells #[.int .i32 px, .int .i32 py, .int .i32 qx, .int .i32 qy, .int .i32 a, .int .i32 b, .int .i32 c, .int .i32 d, .int .i32 ex, .int .i32 ey] 41)).alloc (.cells #[.int .i32 px, .int .i32 py] 23)) #[.int .i32 qx, .int .i32 qy] 23).alloc (.cells #[.int .i32 ex, .int .i32 ey] 33)
  have h7 := Blk.new (((w.alloc (.cells #[.int .i32 px, .int .i32 py, .int .i32 qx, .int .i32 qy, .int .i32 a, .int .i32 b, .int .i32 c, .int .i32 d, .int .i32 ex, .int .i32 ey] 41)).alloc (.cells #[.int .i32 px, .int .i32 py] 23)).alloc (.cells #[.int .i32 qx, .int .i32 qy] 23)) #[.int .i32 ex, .int .i32 ey] 33
  obtain ⟨z5, e5⟩ : ∃ z, z = (w.alloc (.cells #[.int .i32 px, .int .i32 py, .int .i32 qx, .int .i32 qy, .int .i32 a, .int .i32 b, .int .i32 c, .int .i32 d, .int .i32 ex, .int .i32 ey] 41)).heap.size := ⟨_, rfl⟩
  obtain ⟨z6, e6⟩ : ∃ z, z = ((w.alloc (.cells #[.int .i32 px, .int .i32 py, .int .i32 qx, .int .i32 qy, .int .i32 a, .int .i32 b, .int .i32 c, .int .i32 d, .int .i32 ex, .int .i32 ey] 41)).alloc (.cells #[.int .i32 px, .int .i32 py] 23)).heap.size := ⟨_, rfl⟩
  obtain ⟨z7, e7⟩ : ∃ z, z = (((w.alloc (.cells #[.int .i32 px, .int .i32 py, .int .i32 qx, .int .i32 qy, .int .i32 a, .int .i32 b, .int .i32 c, .int .i32 d, .int .i32 ex, .int .i32 ey] 41)).alloc (.cells #[.int .i32 px, .int .i32 py] 23)).alloc (.cells #[.int .i32 qx, .int .i32 qy] 23)).heap.size := ⟨_, rfl⟩
  rw [← e5] at h5
  rw [← e6] at h6
  rw [← e7] at h7
  simp at e5 e6 e7
  have HZ := Lib.hid (And.intro e5 (And.intro e6 e7))
  have HH := Lib.hid (And.intro FA (And.intro h5 (And.intro h6 h7)))
  have a0 := hA.at 0 (v := .int .i32 px) rfl; have a1 := hA.at 1 (v := .int .i32 py) rfl; have a2 := hA.at 2 (v := .int .i32 qx) rfl; have a3 := hA.at 3 (v := .int .i32 qy) rfl; have a4 := hA.at 4 (v := .int .i32 a) rfl; have a5 := hA.at 5 (v := .int .i32 b) rfl; have a6 := hA.at 6 (v := .int .i32 c) rfl; have a7 := hA.at 7 (v := .int .i32 d) rfl; have a8 := hA.at 8 (v := .int .i32 ex) rfl; have a9 := hA.at 9 (v := .int .i32 ey) rfl
  have HI := Lib.hid (And.intro hpx (And.intro hpy (And.intro hqx (And.intro hqy (And.intro hex hey)))))
  obtain ⟨fs, hfs⟩ : ∃ x, x = fits s := ⟨_, rfl⟩
  obtain ⟨ip, hip⟩ : ∃ x, x = inB px py := ⟨_, rfl⟩
  obtain ⟨iq, hiq⟩ : ∃ x, x = inB qx qy := ⟨_, rfl⟩
  have K0 := Lib.hid (fun w => show Calls Try.prog 24 #[.int .i64 s] w fun e w' => e = .returned (.bool fs) ∧ w = w' from hfs ▸ fits_any w s)
  have K1 := Lib.hid (fun w => show Calls Try.prog 25 #[.agg #[.int .i32 px, .int .i32 py]] w fun e w' => e = .returned (.bool ip) ∧ Fr [] w w' from hip ▸ refIn_any w px py)
  have K2 := Lib.hid (fun w => show Calls Try.prog 25 #[.agg #[.int .i32 qx, .int .i32 qy]] w fun e w' => e = .returned (.bool iq) ∧ Fr [] w w' from hiq ▸ refIn_any w qx qy)
  have HFS := Lib.hid (And.intro hfs.symm (And.intro hip.symm hiq.symm))
  clear FA h5 h6 h7 hA e5 e6 e7 hpx hpy hqx hqy hex hey hfs hip hiq
  go_enter Try.func6, Try.ntmps6
  go_wp2_with fail
  obtain ⟨e5, e6, e7⟩ := HZ.out
  rw [show w.heap.size + 1 + 1 + 1 = z7 by omega, show w.heap.size + 1 + 1 = z6 by omega, show w.heap.size + 1 = z5 by omega]
  clear e5 e6 e7 HZ a0 a1 a2 a3 a4 a5 a6 a7 a8 a9
  (with_reducible refine (K0.out _).mono ?_)
  rintro e w0 ⟨rfl, f0⟩
  cases f0
  have a0 := HH.out.2.1.at 0 (v := .int .i32 px) rfl
  have a1 := HH.out.2.1.at 1 (v := .int .i32 py) rfl
  cases fs with
  | false =>
    go_wp2_with fail
    (with_reducible refine (lives_any _).mono ?_)
    rintro e wl ⟨rfl, fl⟩
    have HL := Lib.hid (HH.out.1.trans fl (by simp))
    clear fl
    go_wp2
    go_ret
    exact ⟨rfl, HL.out⟩

  | true =>
    go_wp2_with fail
    (with_reducible refine (K1.out _).mono ?_)
    rintro e w1 ⟨rfl, f1⟩
    have H1 := Lib.hid (And.intro (HH.out.1.trans f1 (by simp)) (And.intro (f1.blk HH.out.2.1 (by simp)) (And.intro (f1.blk HH.out.2.2.1 (by simp)) (f1.blk HH.out.2.2.2 (by simp)))))
    clear f1 HH a0 a1
    cases ip with
    | false =>
      go_wp2_with fail
      (with_reducible refine (lives_any _).mono ?_)
      rintro e wl ⟨rfl, fl⟩
      have HL := Lib.hid (H1.out.1.trans fl (by simp))
      clear fl
      go_wp2
      go_ret
      exact ⟨rfl, HL.out⟩

    | true =>
      have a0 := H1.out.2.2.1.at 0 (v := .int .i32 qx) rfl
      have a1 := H1.out.2.2.1.at 1 (v := .int .i32 qy) rfl
      go_wp2_with fail
      (with_reducible refine (K2.out _).mono ?_)
      rintro e w2 ⟨rfl, f2⟩
      have HH := Lib.hid (And.intro (H1.out.1.trans f2 (by simp)) (And.intro (f2.blk H1.out.2.1 (by simp)) (And.intro (f2.blk H1.out.2.2.1 (by simp)) (f2.blk H1.out.2.2.2 (by simp)))))
      clear f2 H1 a0 a1
      cases iq with
      | false =>
        go_wp2_with fail
        (with_reducible refine (lives_any _).mono ?_)
        rintro e wl ⟨rfl, fl⟩
        have HL := Lib.hid (HH.out.1.trans fl (by simp))
        clear fl
        go_wp2
        go_ret
        exact ⟨rfl, HL.out⟩

      | true =>
        have a0 := HH.out.2.1.at 0 (v := .int .i32 px) rfl
        have a1 := HH.out.2.1.at 1 (v := .int .i32 py) rfl
        obtain ⟨gf, gp, gq⟩ := HFS.out
        obtain ⟨u, hu⟩ : ∃ u, u = px / s := ⟨_, rfl⟩
        obtain ⟨v, hv⟩ : ∃ v, v = py / s := ⟨_, rfl⟩
        have hof : ofV px py s = Value.tuple #[.agg #[.int .i32 u, .int .i32 v], .int .i64 0] := by rw [hu, hv]; simp [ofV, gf]
        obtain ⟨k0, k1, k2, k3, hsq, hcv⟩ := sq_own gf gp
        rw [← hu, ← hv] at hsq
        have o1 := fun w => Of_any w px py s HI.out.1 HI.out.2.1
        simp only [hof] at o1
        unfold pt at o1
        have hs := fits_iff.1 gf
        obtain ⟨p1, p2, p3, p4⟩ := inB_iff.1 gp
        have o2 := fun w => square_any w u v s (hu ▸ ediv_I32 hs p1 p2) (hv ▸ ediv_I32 hs p3 p4)
        simp only [hsq] at o2
        unfold pt at o2
        have o3 := fun w => has_any w k0 k1 k2 k3 px py
        simp only [hcv] at o3
        unfold bx pt at o3
        have O1 := Lib.hid o1
        have O2 := Lib.hid o2
        have O3 := Lib.hid o3
        have o4 := fun w => square_any w ex ey s HI.out.2.2.2.2.1 HI.out.2.2.2.2.2
        obtain ⟨l0, l1, l2, l3, ok, hsq2, hcv2⟩ : ∃ l0 l1 l2 l3 ok, sqV ex ey s = .tuple #[.agg #[.int .i32 l0, .int .i32 l1, .int .i32 l2, .int .i32 l3], .bool ok] ∧ (ok = true → ¬ (ex = u ∧ ey = v) → covers l0 l1 l2 l3 px py = false) := by
          rw [hu, hv]
          rcases sq_other (ex := ex) (ey := ey) (s := s) px py with ⟨l0, l1, l2, l3, h⟩ | ⟨l0, l1, l2, l3, h, h2⟩
          · exact ⟨l0, l1, l2, l3, false, h, fun h => by cases h⟩
          · exact ⟨l0, l1, l2, l3, true, h, fun _ => h2⟩
        simp only [hsq2] at o4
        unfold pt at o4
        have O4 := Lib.hid o4
        have HC2 := Lib.hid hcv2
        have HUV := Lib.hid (And.intro hu hv)
        have hok : lineOk px py qx qy s = true := by unfold lineOk; rw [gf, gp, gq]; rfl
        have SD := Lib.hid (fun w => show Calls Try.prog 29 #[.agg #[.int .i32 px, .int .i32 py], .agg #[.int .i32 qx, .int .i32 qy], .int .i64 s] w fun e w' => e = .returned (.bool true) ∧ Fr [] w w' from side_any w px py qx qy s hok)
        clear hok
        clear o1 o2 o3 o4 hof hsq hcv hsq2 hcv2 hs p1 p2 p3 p4 gf gp gq hu hv K0 K1 K2
        go_wp2_with fail
        (with_reducible refine (O1.out _).mono ?_)
        rintro e w3 ⟨rfl, f3⟩
        have HA := Lib.hid (And.intro ((HH.out.1.trans f3 (by simp)).alloc (.cells #[.int .i32 u, .int .i32 v] 33)) (And.intro ((f3.blk HH.out.2.1 (by simp)).alloc (.cells #[.int .i32 u, .int .i32 v] 33)) (And.intro ((f3.blk HH.out.2.2.1 (by simp)).alloc (.cells #[.int .i32 u, .int .i32 v] 33)) (And.intro ((f3.blk HH.out.2.2.2 (by simp)).alloc (.cells #[.int .i32 u, .int .i32 v] 33)) (Blk.new w3 #[.int .i32 u, .int .i32 v] 33)))))
        clear f3 HH a0 a1
        have a0 := HA.out.2.2.2.2.at 0 (v := .int .i32 u) rfl
        have a1 := HA.out.2.2.2.2.at 1 (v := .int .i32 v) rfl
        obtain ⟨z8, e8⟩ : ∃ z, z = w3.heap.size := ⟨_, rfl⟩
        go_wp2_with fail
        simp only [← e8] at *
        clear e8
        generalize w3.alloc _ = wa at *
        clear a0 a1
        (with_reducible refine (O2.out _).mono ?_)
        rintro e w4 ⟨rfl, f4⟩
        have HB := Lib.hid (And.intro ((HA.out.1.trans f4 (by simp)).alloc (.cells #[.int .i32 k0, .int .i32 k1, .int .i32 k2, .int .i32 k3] 39)) (And.intro ((f4.blk HA.out.2.1 (by simp)).alloc (.cells #[.int .i32 k0, .int .i32 k1, .int .i32 k2, .int .i32 k3] 39)) (And.intro ((f4.blk HA.out.2.2.1 (by simp)).alloc (.cells #[.int .i32 k0, .int .i32 k1, .int .i32 k2, .int .i32 k3] 39)) (And.intro ((f4.blk HA.out.2.2.2.1 (by simp)).alloc (.cells #[.int .i32 k0, .int .i32 k1, .int .i32 k2, .int .i32 k3] 39)) (And.intro ((f4.blk HA.out.2.2.2.2 (by simp)).alloc (.cells #[.int .i32 k0, .int .i32 k1, .int .i32 k2, .int .i32 k3] 39)) (Blk.new w4 #[.int .i32 k0, .int .i32 k1, .int .i32 k2, .int .i32 k3] 39))))))
        clear f4 HA
        have a0 := HB.out.2.2.2.1.at 0 (v := .int .i32 ex) rfl
        have a1 := HB.out.2.2.2.1.at 1 (v := .int .i32 ey) rfl
        obtain ⟨z10, e10⟩ : ∃ z, z = w4.heap.size := ⟨_, rfl⟩
        go_wp2_with fail
        simp only [← e10] at *
        clear e10
        generalize w4.alloc _ = wb at *
        clear a0 a1
        (with_reducible refine (O4.out _).mono ?_)
        rintro e w5 ⟨rfl, f5⟩
        have HA := Lib.hid (And.intro ((HB.out.1.trans f5 (by simp)).alloc (.cells #[.int .i32 l0, .int .i32 l1, .int .i32 l2, .int .i32 l3] 39)) (And.intro ((f5.blk HB.out.2.1 (by simp)).alloc (.cells #[.int .i32 l0, .int .i32 l1, .int .i32 l2, .int .i32 l3] 39)) (And.intro ((f5.blk HB.out.2.2.1 (by simp)).alloc (.cells #[.int .i32 l0, .int .i32 l1, .int .i32 l2, .int .i32 l3] 39)) (And.intro ((f5.blk HB.out.2.2.2.1 (by simp)).alloc (.cells #[.int .i32 l0, .int .i32 l1, .int .i32 l2, .int .i32 l3] 39)) (And.intro ((f5.blk HB.out.2.2.2.2.1 (by simp)).alloc (.cells #[.int .i32 l0, .int .i32 l1, .int .i32 l2, .int .i32 l3] 39)) (And.intro ((f5.blk HB.out.2.2.2.2.2 (by simp)).alloc (.cells #[.int .i32 l0, .int .i32 l1, .int .i32 l2, .int .i32 l3] 39)) (Blk.new w5 #[.int .i32 l0, .int .i32 l1, .int .i32 l2, .int .i32 l3] 39)))))))
        clear f5 HB
        obtain ⟨z12, e12⟩ : ∃ z, z = w5.heap.size := ⟨_, rfl⟩
        go_upto_region 9 with fail
        simp only [← e12] at *
        clear e12
        generalize w5.alloc _ = wc at *
        go_cut [78] (fun s78 wx => s78 = .bool false ∧ Fr [] wc wx)
        case first =>
          have a0 := HA.out.2.2.2.2.2.1.at 0 (v := .int .i32 k0) rfl
          have a1 := HA.out.2.2.2.2.2.1.at 1 (v := .int .i32 k1) rfl
          have a2 := HA.out.2.2.2.2.2.1.at 2 (v := .int .i32 k2) rfl
          have a3 := HA.out.2.2.2.2.2.1.at 3 (v := .int .i32 k3) rfl
          have b0 := HA.out.2.1.at 0 (v := .int .i32 px) rfl
          have b1 := HA.out.2.1.at 1 (v := .int .i32 py) rfl
          go_wp2_with fail
          clear a0 a1 a2 a3 b0 b1
          (with_reducible refine (O3.out _).mono ?_)
          rintro e w6 ⟨rfl, f6⟩
          have HB := Lib.hid (And.intro f6 (And.intro (f6.blk HA.out.2.1 (by simp)) (And.intro (f6.blk HA.out.2.2.2.1 (by simp)) (And.intro (f6.blk HA.out.2.2.2.2.1 (by simp)) (f6.blk HA.out.2.2.2.2.2.2 (by simp))))))
          clear f6
          cases ok with
          | false =>
            go_wp2_with fail
            go_meet
            case rel => exact ⟨rfl, HB.out.1⟩
          | true =>
            have c0 := HB.out.2.2.1.at 0 (v := .int .i32 ex) rfl
            have c1 := HB.out.2.2.1.at 1 (v := .int .i32 ey) rfl
            have d0 := HB.out.2.2.2.1.at 0 (v := .int .i32 u) rfl
            have d1 := HB.out.2.2.2.1.at 1 (v := .int .i32 v) rfl
            obtain ⟨t, ht⟩ : ∃ t, (!(ex == u && ey == v)) = t := ⟨_, rfl⟩
            have hq := neq33 ex ey u v
            simp only [ht] at hq
            have HT := Lib.hid ht
            clear ht
            cases t with
            | false =>
              go_wp2_with fail
              go_meet
              case rel => exact ⟨rfl, HB.out.1⟩
            | true =>
              have a0 := HB.out.2.2.2.2.at 0 (v := .int .i32 l0) rfl
              have a1 := HB.out.2.2.2.2.at 1 (v := .int .i32 l1) rfl
              have a2 := HB.out.2.2.2.2.at 2 (v := .int .i32 l2) rfl
              have a3 := HB.out.2.2.2.2.at 3 (v := .int .i32 l3) rfl
              have b0 := HB.out.2.1.at 0 (v := .int .i32 px) rfl
              have b1 := HB.out.2.1.at 1 (v := .int .i32 py) rfl
              have o5 := fun w => has_any w l0 l1 l2 l3 px py
              simp only [HC2.out rfl (by rintro ⟨e1, e2⟩; have hh := HT.out; rw [e1, e2] at hh; simp at hh)] at o5
              unfold bx pt at o5
              have O5 := Lib.hid o5
              clear o5
              go_wp2_with fail
              (with_reducible refine (O5.out _).mono ?_)
              rintro e w7 ⟨rfl, f7⟩
              have HD := Lib.hid (HB.out.1.trans f7 (by simp))
              clear f7
              go_wp2_with fail
              go_meet
              case rel => exact ⟨rfl, HD.out⟩
        case rest =>
          obtain ⟨rfl, hg⟩ := hcut
          have HB := Lib.hid (And.intro (HA.out.1.trans hg (by simp)) (And.intro (hg.blk HA.out.2.1 (by simp)) (And.intro (hg.blk HA.out.2.2.1 (by simp)) (hg.blk HA.out.2.2.2.2.1 (by simp)))))
          clear hg HA O1 O2 O3 O4 HC2
          go_wp2_with fail
          obtain ⟨m0, hm0⟩ : ∃ x, x = min px qx := ⟨_, rfl⟩
          obtain ⟨m1, hm1⟩ : ∃ x, x = min py qy := ⟨_, rfl⟩
          obtain ⟨n0, hn0⟩ : ∃ x, x = max px qx := ⟨_, rfl⟩
          obtain ⟨n1, hn1⟩ : ∃ x, x = max py qy := ⟨_, rfl⟩
          have HM := Lib.hid (And.intro hm0 (And.intro hm1 (And.intro hn0 hn1)))
          have HMI := Lib.hid (show (if qx < px then qx else px) = m0 ∧ (if qy < py then qy else py) = m1 ∧ (if px < qx then qx else px) = n0 ∧ (if py < qy then qy else py) = n1 by refine ⟨?_, ?_, ?_, ?_⟩ <;> split <;> omega)
          clear hm0 hm1 hn0 hn1
          have HC := Lib.hid (fun w => show Calls Try.prog 27 #[.int .i32 m0, .int .i32 m1] w fun e w' => e = .returned (.agg #[.int .i32 m0, .int .i32 m1]) ∧ Fr [] w w' from at_any w m0 m1)
          have HD := Lib.hid (fun w => show Calls Try.prog 27 #[.int .i32 n0, .int .i32 n1] w fun e w' => e = .returned (.agg #[.int .i32 n0, .int .i32 n1]) ∧ Fr [] w w' from at_any w n0 n1)
          go_cut [14] (fun s14 wx => ∃ z, s14 = .pointer (some ⟨z, 0, none⟩) ∧ Blk wx z #[.int .i32 m0, .int .i32 m1, .int .i32 n0, .int .i32 n1] 39 ∧ Fr [] wc wx)
          case first =>
            refine region_inv (by kernel_rfl) (by kernel_rfl) (Rgn (fun x0 x1 x2 x3 x4 x5 x6 x7 x8 x9 x10 x11 x12 x13 x14 x15 x16 x17 x18 x19 x20 x21 x22 x23 => #[.agg #[.int .i32 px, .int .i32 py, .int .i32 qx, .int .i32 qy, .int .i32 a, .int .i32 b, .int .i32 c, .int .i32 d, .int .i32 ex, .int .i32 ey], .int .i64 s, .pointer (some ⟨w.heap.size, 0, none⟩), undef, .bool false, .pointer (some ⟨z5, 0, none⟩), .pointer (some ⟨z6, 0, none⟩), .pointer (some ⟨z7, 0, none⟩), .pointer (some ⟨z8, 0, none⟩), .int .i64 0, .pointer (some ⟨z10, 0, none⟩), .bool true, .pointer (some ⟨z12, 0, none⟩), .bool ok, x23, undef, u16, u17, u18, u19, u20, u21, u22, u23, u24, u25, u26, u27, u28, u29, u30, u31, u32, u33, u34, u35, u36, u37, u38, u39, u40, u41, u42, u43, u44, u45, u46, u47, u48, u49, u50, u51, u52, u53, u54, u55, u56, u57, u58, u59, u60, u61, u62, u63, u64, u65, u66, u67, u68, u69, u70, u71, u72, u73, u74, u75, u76, u77, .bool false, x0, x1, x2, x3, x4, x5, x6, x7, x8, x9, x10, x11, x12, x13, x14, x15, x16, x17, x18, x19, x20, x21, x22, u102, u103, u104, u105, u106, u107, u108, u109, u110, u111, u112, u113, u114, u115, u116, u117, u118, u119, u120, u121, u122, u123, u124, u125, u126, u127, u128, u129, u130, u131, u132, u133, u134, u135, u136, u137, u138, u139, u140]) wc px py qx qy z5 z6 m0 m1 n0 n1) ?_ ?_ ?_
            · refine ⟨⟨u79, u80, u81, u82, u83, u84, u85, u86, u87, u88, u89, u90, u91, u92, u93, u94, u95, u96, u97, u98, u99, u100, u101, undef, rfl, ?_⟩, (Fr.refl _ _).drew⟩
              simp
            · intro p x W i hi hnp hd hI
              obtain ⟨⟨x0, x1, x2, x3, x4, x5, x6, x7, x8, x9, x10, x11, x12, x13, x14, x15, x16, x17, x18, x19, x20, x21, x22, x23, rfl, g0, g1, g2, g3, g4, g5, g6, g7, g8, g9, g10, g11, g12, g13, g14, g15, g16, g17, g18, g19, g20, g21, g22, g23, g24⟩, hfr⟩ := hI
              have hcases : i = 0 ∨ i = 1 ∨ i = 2 ∨ i = 3 ∨ i = 4 ∨ i = 5 ∨ i = 6 ∨ i = 7 ∨ i = 8 ∨ i = 9 ∨ i = 10 ∨ i = 11 ∨ i = 12 ∨ i = 13 ∨ i = 14 ∨ i = 15 ∨ i = 16 ∨ i = 17 ∨ i = 18 ∨ i = 19 ∨ i = 20 ∨ i = 21 ∨ i = 22 ∨ i = 23 ∨ i = 24 := by
                have h27 : i < 25 := hi
                omega
              rcases hcases with rfl | rfl | rfl | rfl | rfl | rfl | rfl | rfl | rfl | rfl | rfl | rfl | rfl | rfl | rfl | rfl | rfl | rfl | rfl | rfl | rfl | rfl | rfl | rfl | rfl
              · refine wpOp_plain (i := 0) rfl rfl (fun K' hK => ?_)
                unfold Oper.wp
                go_simp
                refine hK _ _ ⟨⟨_, _, _, _, _, _, _, _, _, _, _, _, _, _, _, _, _, _, _, _, _, _, _, _, rfl, (fun _ => rfl), (fun h => g1 (h.resolve_right (by decide))), (fun h => g2 (h.resolve_right (by decide))), (fun h => g3 (h.resolve_right (by decide))), (fun h => g4 (h.resolve_right (by decide))), (fun h => g5 (h.resolve_right (by decide))), (fun h => g6 (h.resolve_right (by decide))), (fun h => g7 (h.resolve_right (by decide))), (fun h => g8 (h.resolve_right (by decide))), (fun h => g9 (h.resolve_right (by decide))), (fun h => g10 (h.resolve_right (by decide))), (fun h => g11 (h.resolve_right (by decide))), (fun h => g12 (h.resolve_right (by decide))), (fun h => g13 (h.resolve_right (by decide))), (fun h => g14 (h.resolve_right (by decide))), (fun h => g15 (h.resolve_right (by decide))), (fun h => g16 (h.resolve_right (by decide))), (fun h => g17 (h.resolve_right (by decide))), (fun h => g18 (h.resolve_right (by decide))), (fun h => g19 (h.resolve_right (by decide))), (fun h => g20 (h.resolve_right (by decide))), (fun h => g21 (h.resolve_right (by decide))), (fun h => g22 (h.resolve_right (by decide))), (fun h => g23 (h.resolve_right (by decide))), (fun h => ⟨.inl (g24 (h.resolve_right (by decide))).1, (g24 (h.resolve_right (by decide))).2⟩)⟩, hfr⟩
              · have r0 := g0 (hd _ rfl ⟨0, .data⟩ (by simp) rfl)
                subst r0
                refine wpOp_plain (i := 1) rfl rfl (fun K' hK => ?_)
                have q := hfr.blk HB.out.2.1 (by simp)
                have c0 := q.at 0 (v := .int .i32 px) rfl
                clear q
                unfold Oper.wp
                go_simp
                refine hK _ _ ⟨⟨_, _, _, _, _, _, _, _, _, _, _, _, _, _, _, _, _, _, _, _, _, _, _, _, rfl, (fun h => g0 (h.resolve_right (by decide))), (fun _ => rfl), (fun h => g2 (h.resolve_right (by decide))), (fun h => g3 (h.resolve_right (by decide))), (fun h => g4 (h.resolve_right (by decide))), (fun h => g5 (h.resolve_right (by decide))), (fun h => g6 (h.resolve_right (by decide))), (fun h => g7 (h.resolve_right (by decide))), (fun h => g8 (h.resolve_right (by decide))), (fun h => g9 (h.resolve_right (by decide))), (fun h => g10 (h.resolve_right (by decide))), (fun h => g11 (h.resolve_right (by decide))), (fun h => g12 (h.resolve_right (by decide))), (fun h => g13 (h.resolve_right (by decide))), (fun h => g14 (h.resolve_right (by decide))), (fun h => g15 (h.resolve_right (by decide))), (fun h => g16 (h.resolve_right (by decide))), (fun h => g17 (h.resolve_right (by decide))), (fun h => g18 (h.resolve_right (by decide))), (fun h => g19 (h.resolve_right (by decide))), (fun h => g20 (h.resolve_right (by decide))), (fun h => g21 (h.resolve_right (by decide))), (fun h => g22 (h.resolve_right (by decide))), (fun h => g23 (h.resolve_right (by decide))), (fun h => ⟨.inl (g24 (h.resolve_right (by decide))).1, (g24 (h.resolve_right (by decide))).2⟩)⟩, hfr⟩
              · refine wpOp_plain (i := 2) rfl rfl (fun K' hK => ?_)
                unfold Oper.wp
                go_simp
                refine hK _ _ ⟨⟨_, _, _, _, _, _, _, _, _, _, _, _, _, _, _, _, _, _, _, _, _, _, _, _, rfl, (fun h => g0 (h.resolve_right (by decide))), (fun h => g1 (h.resolve_right (by decide))), (fun _ => rfl), (fun h => g3 (h.resolve_right (by decide))), (fun h => g4 (h.resolve_right (by decide))), (fun h => g5 (h.resolve_right (by decide))), (fun h => g6 (h.resolve_right (by decide))), (fun h => g7 (h.resolve_right (by decide))), (fun h => g8 (h.resolve_right (by decide))), (fun h => g9 (h.resolve_right (by decide))), (fun h => g10 (h.resolve_right (by decide))), (fun h => g11 (h.resolve_right (by decide))), (fun h => g12 (h.resolve_right (by decide))), (fun h => g13 (h.resolve_right (by decide))), (fun h => g14 (h.resolve_right (by decide))), (fun h => g15 (h.resolve_right (by decide))), (fun h => g16 (h.resolve_right (by decide))), (fun h => g17 (h.resolve_right (by decide))), (fun h => g18 (h.resolve_right (by decide))), (fun h => g19 (h.resolve_right (by decide))), (fun h => g20 (h.resolve_right (by decide))), (fun h => g21 (h.resolve_right (by decide))), (fun h => g22 (h.resolve_right (by decide))), (fun h => g23 (h.resolve_right (by decide))), (fun h => ⟨.inl (g24 (h.resolve_right (by decide))).1, (g24 (h.resolve_right (by decide))).2⟩)⟩, hfr⟩
              · have r2 := g2 (hd _ rfl ⟨2, .data⟩ (by simp) rfl)
                subst r2
                refine wpOp_plain (i := 3) rfl rfl (fun K' hK => ?_)
                have q := hfr.blk HB.out.2.2.1 (by simp)
                have c0 := q.at 0 (v := .int .i32 qx) rfl
                clear q
                unfold Oper.wp
                go_simp
                refine hK _ _ ⟨⟨_, _, _, _, _, _, _, _, _, _, _, _, _, _, _, _, _, _, _, _, _, _, _, _, rfl, (fun h => g0 (h.resolve_right (by decide))), (fun h => g1 (h.resolve_right (by decide))), (fun h => g2 (h.resolve_right (by decide))), (fun _ => rfl), (fun h => g4 (h.resolve_right (by decide))), (fun h => g5 (h.resolve_right (by decide))), (fun h => g6 (h.resolve_right (by decide))), (fun h => g7 (h.resolve_right (by decide))), (fun h => g8 (h.resolve_right (by decide))), (fun h => g9 (h.resolve_right (by decide))), (fun h => g10 (h.resolve_right (by decide))), (fun h => g11 (h.resolve_right (by decide))), (fun h => g12 (h.resolve_right (by decide))), (fun h => g13 (h.resolve_right (by decide))), (fun h => g14 (h.resolve_right (by decide))), (fun h => g15 (h.resolve_right (by decide))), (fun h => g16 (h.resolve_right (by decide))), (fun h => g17 (h.resolve_right (by decide))), (fun h => g18 (h.resolve_right (by decide))), (fun h => g19 (h.resolve_right (by decide))), (fun h => g20 (h.resolve_right (by decide))), (fun h => g21 (h.resolve_right (by decide))), (fun h => g22 (h.resolve_right (by decide))), (fun h => g23 (h.resolve_right (by decide))), (fun h => ⟨.inl (g24 (h.resolve_right (by decide))).1, (g24 (h.resolve_right (by decide))).2⟩)⟩, hfr⟩
              · have r1 := g1 (hd _ rfl ⟨1, .data⟩ (by simp) rfl)
                subst r1
                have r3 := g3 (hd _ rfl ⟨3, .data⟩ (by simp) rfl)
                subst r3
                refine wpOp_plain (i := 4) rfl rfl (fun K' hK => ?_)
                unfold Oper.wp
                go_simp
                rw [HMI.out.1]
                refine hK _ _ ⟨⟨_, _, _, _, _, _, _, _, _, _, _, _, _, _, _, _, _, _, _, _, _, _, _, _, rfl, (fun h => g0 (h.resolve_right (by decide))), (fun h => g1 (h.resolve_right (by decide))), (fun h => g2 (h.resolve_right (by decide))), (fun h => g3 (h.resolve_right (by decide))), (fun _ => rfl), (fun h => g5 (h.resolve_right (by decide))), (fun h => g6 (h.resolve_right (by decide))), (fun h => g7 (h.resolve_right (by decide))), (fun h => g8 (h.resolve_right (by decide))), (fun h => g9 (h.resolve_right (by decide))), (fun h => g10 (h.resolve_right (by decide))), (fun h => g11 (h.resolve_right (by decide))), (fun h => g12 (h.resolve_right (by decide))), (fun h => g13 (h.resolve_right (by decide))), (fun h => g14 (h.resolve_right (by decide))), (fun h => g15 (h.resolve_right (by decide))), (fun h => g16 (h.resolve_right (by decide))), (fun h => g17 (h.resolve_right (by decide))), (fun h => g18 (h.resolve_right (by decide))), (fun h => g19 (h.resolve_right (by decide))), (fun h => g20 (h.resolve_right (by decide))), (fun h => g21 (h.resolve_right (by decide))), (fun h => g22 (h.resolve_right (by decide))), (fun h => g23 (h.resolve_right (by decide))), (fun h => ⟨.inl (g24 (h.resolve_right (by decide))).1, (g24 (h.resolve_right (by decide))).2⟩)⟩, hfr⟩
              · refine wpOp_plain (i := 5) rfl rfl (fun K' hK => ?_)
                unfold Oper.wp
                go_simp
                refine hK _ _ ⟨⟨_, _, _, _, _, _, _, _, _, _, _, _, _, _, _, _, _, _, _, _, _, _, _, _, rfl, (fun h => g0 (h.resolve_right (by decide))), (fun h => g1 (h.resolve_right (by decide))), (fun h => g2 (h.resolve_right (by decide))), (fun h => g3 (h.resolve_right (by decide))), (fun h => g4 (h.resolve_right (by decide))), (fun _ => rfl), (fun h => g6 (h.resolve_right (by decide))), (fun h => g7 (h.resolve_right (by decide))), (fun h => g8 (h.resolve_right (by decide))), (fun h => g9 (h.resolve_right (by decide))), (fun h => g10 (h.resolve_right (by decide))), (fun h => g11 (h.resolve_right (by decide))), (fun h => g12 (h.resolve_right (by decide))), (fun h => g13 (h.resolve_right (by decide))), (fun h => g14 (h.resolve_right (by decide))), (fun h => g15 (h.resolve_right (by decide))), (fun h => g16 (h.resolve_right (by decide))), (fun h => g17 (h.resolve_right (by decide))), (fun h => g18 (h.resolve_right (by decide))), (fun h => g19 (h.resolve_right (by decide))), (fun h => g20 (h.resolve_right (by decide))), (fun h => g21 (h.resolve_right (by decide))), (fun h => g22 (h.resolve_right (by decide))), (fun h => g23 (h.resolve_right (by decide))), (fun h => ⟨.inl (g24 (h.resolve_right (by decide))).1, (g24 (h.resolve_right (by decide))).2⟩)⟩, hfr⟩
              · have r5 := g5 (hd _ rfl ⟨5, .data⟩ (by simp) rfl)
                subst r5
                refine wpOp_plain (i := 6) rfl rfl (fun K' hK => ?_)
                have q := hfr.blk HB.out.2.1 (by simp)
                have c1 := q.at 1 (v := .int .i32 py) rfl
                clear q
                unfold Oper.wp
                go_simp
                refine hK _ _ ⟨⟨_, _, _, _, _, _, _, _, _, _, _, _, _, _, _, _, _, _, _, _, _, _, _, _, rfl, (fun h => g0 (h.resolve_right (by decide))), (fun h => g1 (h.resolve_right (by decide))), (fun h => g2 (h.resolve_right (by decide))), (fun h => g3 (h.resolve_right (by decide))), (fun h => g4 (h.resolve_right (by decide))), (fun h => g5 (h.resolve_right (by decide))), (fun _ => rfl), (fun h => g7 (h.resolve_right (by decide))), (fun h => g8 (h.resolve_right (by decide))), (fun h => g9 (h.resolve_right (by decide))), (fun h => g10 (h.resolve_right (by decide))), (fun h => g11 (h.resolve_right (by decide))), (fun h => g12 (h.resolve_right (by decide))), (fun h => g13 (h.resolve_right (by decide))), (fun h => g14 (h.resolve_right (by decide))), (fun h => g15 (h.resolve_right (by decide))), (fun h => g16 (h.resolve_right (by decide))), (fun h => g17 (h.resolve_right (by decide))), (fun h => g18 (h.resolve_right (by decide))), (fun h => g19 (h.resolve_right (by decide))), (fun h => g20 (h.resolve_right (by decide))), (fun h => g21 (h.resolve_right (by decide))), (fun h => g22 (h.resolve_right (by decide))), (fun h => g23 (h.resolve_right (by decide))), (fun h => ⟨.inl (g24 (h.resolve_right (by decide))).1, (g24 (h.resolve_right (by decide))).2⟩)⟩, hfr⟩
              · refine wpOp_plain (i := 7) rfl rfl (fun K' hK => ?_)
                unfold Oper.wp
                go_simp
                refine hK _ _ ⟨⟨_, _, _, _, _, _, _, _, _, _, _, _, _, _, _, _, _, _, _, _, _, _, _, _, rfl, (fun h => g0 (h.resolve_right (by decide))), (fun h => g1 (h.resolve_right (by decide))), (fun h => g2 (h.resolve_right (by decide))), (fun h => g3 (h.resolve_right (by decide))), (fun h => g4 (h.resolve_right (by decide))), (fun h => g5 (h.resolve_right (by decide))), (fun h => g6 (h.resolve_right (by decide))), (fun _ => rfl), (fun h => g8 (h.resolve_right (by decide))), (fun h => g9 (h.resolve_right (by decide))), (fun h => g10 (h.resolve_right (by decide))), (fun h => g11 (h.resolve_right (by decide))), (fun h => g12 (h.resolve_right (by decide))), (fun h => g13 (h.resolve_right (by decide))), (fun h => g14 (h.resolve_right (by decide))), (fun h => g15 (h.resolve_right (by decide))), (fun h => g16 (h.resolve_right (by decide))), (fun h => g17 (h.resolve_right (by decide))), (fun h => g18 (h.resolve_right (by decide))), (fun h => g19 (h.resolve_right (by decide))), (fun h => g20 (h.resolve_right (by decide))), (fun h => g21 (h.resolve_right (by decide))), (fun h => g22 (h.resolve_right (by decide))), (fun h => g23 (h.resolve_right (by decide))), (fun h => ⟨.inl (g24 (h.resolve_right (by decide))).1, (g24 (h.resolve_right (by decide))).2⟩)⟩, hfr⟩
              · have r7 := g7 (hd _ rfl ⟨7, .data⟩ (by simp) rfl)
                subst r7
                refine wpOp_plain (i := 8) rfl rfl (fun K' hK => ?_)
                have q := hfr.blk HB.out.2.2.1 (by simp)
                have c1 := q.at 1 (v := .int .i32 qy) rfl
                clear q
                unfold Oper.wp
                go_simp
                refine hK _ _ ⟨⟨_, _, _, _, _, _, _, _, _, _, _, _, _, _, _, _, _, _, _, _, _, _, _, _, rfl, (fun h => g0 (h.resolve_right (by decide))), (fun h => g1 (h.resolve_right (by decide))), (fun h => g2 (h.resolve_right (by decide))), (fun h => g3 (h.resolve_right (by decide))), (fun h => g4 (h.resolve_right (by decide))), (fun h => g5 (h.resolve_right (by decide))), (fun h => g6 (h.resolve_right (by decide))), (fun h => g7 (h.resolve_right (by decide))), (fun _ => rfl), (fun h => g9 (h.resolve_right (by decide))), (fun h => g10 (h.resolve_right (by decide))), (fun h => g11 (h.resolve_right (by decide))), (fun h => g12 (h.resolve_right (by decide))), (fun h => g13 (h.resolve_right (by decide))), (fun h => g14 (h.resolve_right (by decide))), (fun h => g15 (h.resolve_right (by decide))), (fun h => g16 (h.resolve_right (by decide))), (fun h => g17 (h.resolve_right (by decide))), (fun h => g18 (h.resolve_right (by decide))), (fun h => g19 (h.resolve_right (by decide))), (fun h => g20 (h.resolve_right (by decide))), (fun h => g21 (h.resolve_right (by decide))), (fun h => g22 (h.resolve_right (by decide))), (fun h => g23 (h.resolve_right (by decide))), (fun h => ⟨.inl (g24 (h.resolve_right (by decide))).1, (g24 (h.resolve_right (by decide))).2⟩)⟩, hfr⟩
              · have r6 := g6 (hd _ rfl ⟨6, .data⟩ (by simp) rfl)
                subst r6
                have r8 := g8 (hd _ rfl ⟨8, .data⟩ (by simp) rfl)
                subst r8
                refine wpOp_plain (i := 9) rfl rfl (fun K' hK => ?_)
                unfold Oper.wp
                go_simp
                rw [HMI.out.2.1]
                refine hK _ _ ⟨⟨_, _, _, _, _, _, _, _, _, _, _, _, _, _, _, _, _, _, _, _, _, _, _, _, rfl, (fun h => g0 (h.resolve_right (by decide))), (fun h => g1 (h.resolve_right (by decide))), (fun h => g2 (h.resolve_right (by decide))), (fun h => g3 (h.resolve_right (by decide))), (fun h => g4 (h.resolve_right (by decide))), (fun h => g5 (h.resolve_right (by decide))), (fun h => g6 (h.resolve_right (by decide))), (fun h => g7 (h.resolve_right (by decide))), (fun h => g8 (h.resolve_right (by decide))), (fun _ => rfl), (fun h => g10 (h.resolve_right (by decide))), (fun h => g11 (h.resolve_right (by decide))), (fun h => g12 (h.resolve_right (by decide))), (fun h => g13 (h.resolve_right (by decide))), (fun h => g14 (h.resolve_right (by decide))), (fun h => g15 (h.resolve_right (by decide))), (fun h => g16 (h.resolve_right (by decide))), (fun h => g17 (h.resolve_right (by decide))), (fun h => g18 (h.resolve_right (by decide))), (fun h => g19 (h.resolve_right (by decide))), (fun h => g20 (h.resolve_right (by decide))), (fun h => g21 (h.resolve_right (by decide))), (fun h => g22 (h.resolve_right (by decide))), (fun h => g23 (h.resolve_right (by decide))), (fun h => ⟨.inl (g24 (h.resolve_right (by decide))).1, (g24 (h.resolve_right (by decide))).2⟩)⟩, hfr⟩
              · have r4 := g4 (hd _ rfl ⟨4, .data⟩ (by simp) rfl)
                subst r4
                have r9 := g9 (hd _ rfl ⟨9, .data⟩ (by simp) rfl)
                subst r9
                refine wpOp_plain (i := 10) rfl rfl (fun K' hK => ?_)
                unfold Oper.wp
                go_simp
                (with_reducible refine (HC.out _).mono ?_)
                rintro e w9 ⟨rfl, f⟩
                refine hK _ _ ⟨⟨_, _, _, _, _, _, _, _, _, _, _, _, _, _, _, _, _, _, _, _, _, _, _, _, rfl, (fun h => g0 (h.resolve_right (by decide))), (fun h => g1 (h.resolve_right (by decide))), (fun h => g2 (h.resolve_right (by decide))), (fun h => g3 (h.resolve_right (by decide))), (fun h => g4 (h.resolve_right (by decide))), (fun h => g5 (h.resolve_right (by decide))), (fun h => g6 (h.resolve_right (by decide))), (fun h => g7 (h.resolve_right (by decide))), (fun h => g8 (h.resolve_right (by decide))), (fun h => g9 (h.resolve_right (by decide))), (fun _ => rfl), (fun h => g11 (h.resolve_right (by decide))), (fun h => g12 (h.resolve_right (by decide))), (fun h => g13 (h.resolve_right (by decide))), (fun h => g14 (h.resolve_right (by decide))), (fun h => g15 (h.resolve_right (by decide))), (fun h => g16 (h.resolve_right (by decide))), (fun h => g17 (h.resolve_right (by decide))), (fun h => g18 (h.resolve_right (by decide))), (fun h => g19 (h.resolve_right (by decide))), (fun h => g20 (h.resolve_right (by decide))), (fun h => g21 (h.resolve_right (by decide))), (fun h => g22 (h.resolve_right (by decide))), (fun h => by obtain ⟨z, e, hz, ar, hb, har⟩ := g23 (h.resolve_right (by decide)); exact ⟨z, e, hz, ar, f.blk hb (by simp), har⟩), (fun h => by obtain ⟨h3, z, e, hz, hb⟩ := g24 (h.resolve_right (by decide)); exact ⟨.inl h3, z, e, hz, f.blk hb (by simp)⟩)⟩, (hfr.trans f (by simp))⟩
              · refine wpOp_plain (i := 11) rfl rfl (fun K' hK => ?_)
                unfold Oper.wp
                go_simp
                refine hK _ _ ⟨⟨_, _, _, _, _, _, _, _, _, _, _, _, _, _, _, _, _, _, _, _, _, _, _, _, rfl, (fun h => g0 (h.resolve_right (by decide))), (fun h => g1 (h.resolve_right (by decide))), (fun h => g2 (h.resolve_right (by decide))), (fun h => g3 (h.resolve_right (by decide))), (fun h => g4 (h.resolve_right (by decide))), (fun h => g5 (h.resolve_right (by decide))), (fun h => g6 (h.resolve_right (by decide))), (fun h => g7 (h.resolve_right (by decide))), (fun h => g8 (h.resolve_right (by decide))), (fun h => g9 (h.resolve_right (by decide))), (fun h => g10 (h.resolve_right (by decide))), (fun _ => rfl), (fun h => g12 (h.resolve_right (by decide))), (fun h => g13 (h.resolve_right (by decide))), (fun h => g14 (h.resolve_right (by decide))), (fun h => g15 (h.resolve_right (by decide))), (fun h => g16 (h.resolve_right (by decide))), (fun h => g17 (h.resolve_right (by decide))), (fun h => g18 (h.resolve_right (by decide))), (fun h => g19 (h.resolve_right (by decide))), (fun h => g20 (h.resolve_right (by decide))), (fun h => g21 (h.resolve_right (by decide))), (fun h => g22 (h.resolve_right (by decide))), (fun h => g23 (h.resolve_right (by decide))), (fun h => ⟨.inl (g24 (h.resolve_right (by decide))).1, (g24 (h.resolve_right (by decide))).2⟩)⟩, hfr⟩
              · have r11 := g11 (hd _ rfl ⟨11, .data⟩ (by simp) rfl)
                subst r11
                refine wpOp_plain (i := 12) rfl rfl (fun K' hK => ?_)
                have q := hfr.blk HB.out.2.1 (by simp)
                have c0 := q.at 0 (v := .int .i32 px) rfl
                clear q
                unfold Oper.wp
                go_simp
                refine hK _ _ ⟨⟨_, _, _, _, _, _, _, _, _, _, _, _, _, _, _, _, _, _, _, _, _, _, _, _, rfl, (fun h => g0 (h.resolve_right (by decide))), (fun h => g1 (h.resolve_right (by decide))), (fun h => g2 (h.resolve_right (by decide))), (fun h => g3 (h.resolve_right (by decide))), (fun h => g4 (h.resolve_right (by decide))), (fun h => g5 (h.resolve_right (by decide))), (fun h => g6 (h.resolve_right (by decide))), (fun h => g7 (h.resolve_right (by decide))), (fun h => g8 (h.resolve_right (by decide))), (fun h => g9 (h.resolve_right (by decide))), (fun h => g10 (h.resolve_right (by decide))), (fun h => g11 (h.resolve_right (by decide))), (fun _ => rfl), (fun h => g13 (h.resolve_right (by decide))), (fun h => g14 (h.resolve_right (by decide))), (fun h => g15 (h.resolve_right (by decide))), (fun h => g16 (h.resolve_right (by decide))), (fun h => g17 (h.resolve_right (by decide))), (fun h => g18 (h.resolve_right (by decide))), (fun h => g19 (h.resolve_right (by decide))), (fun h => g20 (h.resolve_right (by decide))), (fun h => g21 (h.resolve_right (by decide))), (fun h => g22 (h.resolve_right (by decide))), (fun h => g23 (h.resolve_right (by decide))), (fun h => ⟨.inl (g24 (h.resolve_right (by decide))).1, (g24 (h.resolve_right (by decide))).2⟩)⟩, hfr⟩
              · refine wpOp_plain (i := 13) rfl rfl (fun K' hK => ?_)
                unfold Oper.wp
                go_simp
                refine hK _ _ ⟨⟨_, _, _, _, _, _, _, _, _, _, _, _, _, _, _, _, _, _, _, _, _, _, _, _, rfl, (fun h => g0 (h.resolve_right (by decide))), (fun h => g1 (h.resolve_right (by decide))), (fun h => g2 (h.resolve_right (by decide))), (fun h => g3 (h.resolve_right (by decide))), (fun h => g4 (h.resolve_right (by decide))), (fun h => g5 (h.resolve_right (by decide))), (fun h => g6 (h.resolve_right (by decide))), (fun h => g7 (h.resolve_right (by decide))), (fun h => g8 (h.resolve_right (by decide))), (fun h => g9 (h.resolve_right (by decide))), (fun h => g10 (h.resolve_right (by decide))), (fun h => g11 (h.resolve_right (by decide))), (fun h => g12 (h.resolve_right (by decide))), (fun _ => rfl), (fun h => g14 (h.resolve_right (by decide))), (fun h => g15 (h.resolve_right (by decide))), (fun h => g16 (h.resolve_right (by decide))), (fun h => g17 (h.resolve_right (by decide))), (fun h => g18 (h.resolve_right (by decide))), (fun h => g19 (h.resolve_right (by decide))), (fun h => g20 (h.resolve_right (by decide))), (fun h => g21 (h.resolve_right (by decide))), (fun h => g22 (h.resolve_right (by decide))), (fun h => g23 (h.resolve_right (by decide))), (fun h => ⟨.inl (g24 (h.resolve_right (by decide))).1, (g24 (h.resolve_right (by decide))).2⟩)⟩, hfr⟩
              · have r13 := g13 (hd _ rfl ⟨13, .data⟩ (by simp) rfl)
                subst r13
                refine wpOp_plain (i := 14) rfl rfl (fun K' hK => ?_)
                have q := hfr.blk HB.out.2.2.1 (by simp)
                have c0 := q.at 0 (v := .int .i32 qx) rfl
                clear q
                unfold Oper.wp
                go_simp
                refine hK _ _ ⟨⟨_, _, _, _, _, _, _, _, _, _, _, _, _, _, _, _, _, _, _, _, _, _, _, _, rfl, (fun h => g0 (h.resolve_right (by decide))), (fun h => g1 (h.resolve_right (by decide))), (fun h => g2 (h.resolve_right (by decide))), (fun h => g3 (h.resolve_right (by decide))), (fun h => g4 (h.resolve_right (by decide))), (fun h => g5 (h.resolve_right (by decide))), (fun h => g6 (h.resolve_right (by decide))), (fun h => g7 (h.resolve_right (by decide))), (fun h => g8 (h.resolve_right (by decide))), (fun h => g9 (h.resolve_right (by decide))), (fun h => g10 (h.resolve_right (by decide))), (fun h => g11 (h.resolve_right (by decide))), (fun h => g12 (h.resolve_right (by decide))), (fun h => g13 (h.resolve_right (by decide))), (fun _ => rfl), (fun h => g15 (h.resolve_right (by decide))), (fun h => g16 (h.resolve_right (by decide))), (fun h => g17 (h.resolve_right (by decide))), (fun h => g18 (h.resolve_right (by decide))), (fun h => g19 (h.resolve_right (by decide))), (fun h => g20 (h.resolve_right (by decide))), (fun h => g21 (h.resolve_right (by decide))), (fun h => g22 (h.resolve_right (by decide))), (fun h => g23 (h.resolve_right (by decide))), (fun h => ⟨.inl (g24 (h.resolve_right (by decide))).1, (g24 (h.resolve_right (by decide))).2⟩)⟩, hfr⟩
              · have r12 := g12 (hd _ rfl ⟨12, .data⟩ (by simp) rfl)
                subst r12
                have r14 := g14 (hd _ rfl ⟨14, .data⟩ (by simp) rfl)
                subst r14
                refine wpOp_plain (i := 15) rfl rfl (fun K' hK => ?_)
                unfold Oper.wp
                go_simp
                rw [HMI.out.2.2.1]
                refine hK _ _ ⟨⟨_, _, _, _, _, _, _, _, _, _, _, _, _, _, _, _, _, _, _, _, _, _, _, _, rfl, (fun h => g0 (h.resolve_right (by decide))), (fun h => g1 (h.resolve_right (by decide))), (fun h => g2 (h.resolve_right (by decide))), (fun h => g3 (h.resolve_right (by decide))), (fun h => g4 (h.resolve_right (by decide))), (fun h => g5 (h.resolve_right (by decide))), (fun h => g6 (h.resolve_right (by decide))), (fun h => g7 (h.resolve_right (by decide))), (fun h => g8 (h.resolve_right (by decide))), (fun h => g9 (h.resolve_right (by decide))), (fun h => g10 (h.resolve_right (by decide))), (fun h => g11 (h.resolve_right (by decide))), (fun h => g12 (h.resolve_right (by decide))), (fun h => g13 (h.resolve_right (by decide))), (fun h => g14 (h.resolve_right (by decide))), (fun _ => rfl), (fun h => g16 (h.resolve_right (by decide))), (fun h => g17 (h.resolve_right (by decide))), (fun h => g18 (h.resolve_right (by decide))), (fun h => g19 (h.resolve_right (by decide))), (fun h => g20 (h.resolve_right (by decide))), (fun h => g21 (h.resolve_right (by decide))), (fun h => g22 (h.resolve_right (by decide))), (fun h => g23 (h.resolve_right (by decide))), (fun h => ⟨.inl (g24 (h.resolve_right (by decide))).1, (g24 (h.resolve_right (by decide))).2⟩)⟩, hfr⟩
              · refine wpOp_plain (i := 16) rfl rfl (fun K' hK => ?_)
                unfold Oper.wp
                go_simp
                refine hK _ _ ⟨⟨_, _, _, _, _, _, _, _, _, _, _, _, _, _, _, _, _, _, _, _, _, _, _, _, rfl, (fun h => g0 (h.resolve_right (by decide))), (fun h => g1 (h.resolve_right (by decide))), (fun h => g2 (h.resolve_right (by decide))), (fun h => g3 (h.resolve_right (by decide))), (fun h => g4 (h.resolve_right (by decide))), (fun h => g5 (h.resolve_right (by decide))), (fun h => g6 (h.resolve_right (by decide))), (fun h => g7 (h.resolve_right (by decide))), (fun h => g8 (h.resolve_right (by decide))), (fun h => g9 (h.resolve_right (by decide))), (fun h => g10 (h.resolve_right (by decide))), (fun h => g11 (h.resolve_right (by decide))), (fun h => g12 (h.resolve_right (by decide))), (fun h => g13 (h.resolve_right (by decide))), (fun h => g14 (h.resolve_right (by decide))), (fun h => g15 (h.resolve_right (by decide))), (fun _ => rfl), (fun h => g17 (h.resolve_right (by decide))), (fun h => g18 (h.resolve_right (by decide))), (fun h => g19 (h.resolve_right (by decide))), (fun h => g20 (h.resolve_right (by decide))), (fun h => g21 (h.resolve_right (by decide))), (fun h => g22 (h.resolve_right (by decide))), (fun h => g23 (h.resolve_right (by decide))), (fun h => ⟨.inl (g24 (h.resolve_right (by decide))).1, (g24 (h.resolve_right (by decide))).2⟩)⟩, hfr⟩
              · have r16 := g16 (hd _ rfl ⟨16, .data⟩ (by simp) rfl)
                subst r16
                refine wpOp_plain (i := 17) rfl rfl (fun K' hK => ?_)
                have q := hfr.blk HB.out.2.1 (by simp)
                have c1 := q.at 1 (v := .int .i32 py) rfl
                clear q
                unfold Oper.wp
                go_simp
                refine hK _ _ ⟨⟨_, _, _, _, _, _, _, _, _, _, _, _, _, _, _, _, _, _, _, _, _, _, _, _, rfl, (fun h => g0 (h.resolve_right (by decide))), (fun h => g1 (h.resolve_right (by decide))), (fun h => g2 (h.resolve_right (by decide))), (fun h => g3 (h.resolve_right (by decide))), (fun h => g4 (h.resolve_right (by decide))), (fun h => g5 (h.resolve_right (by decide))), (fun h => g6 (h.resolve_right (by decide))), (fun h => g7 (h.resolve_right (by decide))), (fun h => g8 (h.resolve_right (by decide))), (fun h => g9 (h.resolve_right (by decide))), (fun h => g10 (h.resolve_right (by decide))), (fun h => g11 (h.resolve_right (by decide))), (fun h => g12 (h.resolve_right (by decide))), (fun h => g13 (h.resolve_right (by decide))), (fun h => g14 (h.resolve_right (by decide))), (fun h => g15 (h.resolve_right (by decide))), (fun h => g16 (h.resolve_right (by decide))), (fun _ => rfl), (fun h => g18 (h.resolve_right (by decide))), (fun h => g19 (h.resolve_right (by decide))), (fun h => g20 (h.resolve_right (by decide))), (fun h => g21 (h.resolve_right (by decide))), (fun h => g22 (h.resolve_right (by decide))), (fun h => g23 (h.resolve_right (by decide))), (fun h => ⟨.inl (g24 (h.resolve_right (by decide))).1, (g24 (h.resolve_right (by decide))).2⟩)⟩, hfr⟩
              · refine wpOp_plain (i := 18) rfl rfl (fun K' hK => ?_)
                unfold Oper.wp
                go_simp
                refine hK _ _ ⟨⟨_, _, _, _, _, _, _, _, _, _, _, _, _, _, _, _, _, _, _, _, _, _, _, _, rfl, (fun h => g0 (h.resolve_right (by decide))), (fun h => g1 (h.resolve_right (by decide))), (fun h => g2 (h.resolve_right (by decide))), (fun h => g3 (h.resolve_right (by decide))), (fun h => g4 (h.resolve_right (by decide))), (fun h => g5 (h.resolve_right (by decide))), (fun h => g6 (h.resolve_right (by decide))), (fun h => g7 (h.resolve_right (by decide))), (fun h => g8 (h.resolve_right (by decide))), (fun h => g9 (h.resolve_right (by decide))), (fun h => g10 (h.resolve_right (by decide))), (fun h => g11 (h.resolve_right (by decide))), (fun h => g12 (h.resolve_right (by decide))), (fun h => g13 (h.resolve_right (by decide))), (fun h => g14 (h.resolve_right (by decide))), (fun h => g15 (h.resolve_right (by decide))), (fun h => g16 (h.resolve_right (by decide))), (fun h => g17 (h.resolve_right (by decide))), (fun _ => rfl), (fun h => g19 (h.resolve_right (by decide))), (fun h => g20 (h.resolve_right (by decide))), (fun h => g21 (h.resolve_right (by decide))), (fun h => g22 (h.resolve_right (by decide))), (fun h => g23 (h.resolve_right (by decide))), (fun h => ⟨.inl (g24 (h.resolve_right (by decide))).1, (g24 (h.resolve_right (by decide))).2⟩)⟩, hfr⟩
              · have r18 := g18 (hd _ rfl ⟨18, .data⟩ (by simp) rfl)
                subst r18
                refine wpOp_plain (i := 19) rfl rfl (fun K' hK => ?_)
                have q := hfr.blk HB.out.2.2.1 (by simp)
                have c1 := q.at 1 (v := .int .i32 qy) rfl
                clear q
                unfold Oper.wp
                go_simp
                refine hK _ _ ⟨⟨_, _, _, _, _, _, _, _, _, _, _, _, _, _, _, _, _, _, _, _, _, _, _, _, rfl, (fun h => g0 (h.resolve_right (by decide))), (fun h => g1 (h.resolve_right (by decide))), (fun h => g2 (h.resolve_right (by decide))), (fun h => g3 (h.resolve_right (by decide))), (fun h => g4 (h.resolve_right (by decide))), (fun h => g5 (h.resolve_right (by decide))), (fun h => g6 (h.resolve_right (by decide))), (fun h => g7 (h.resolve_right (by decide))), (fun h => g8 (h.resolve_right (by decide))), (fun h => g9 (h.resolve_right (by decide))), (fun h => g10 (h.resolve_right (by decide))), (fun h => g11 (h.resolve_right (by decide))), (fun h => g12 (h.resolve_right (by decide))), (fun h => g13 (h.resolve_right (by decide))), (fun h => g14 (h.resolve_right (by decide))), (fun h => g15 (h.resolve_right (by decide))), (fun h => g16 (h.resolve_right (by decide))), (fun h => g17 (h.resolve_right (by decide))), (fun h => g18 (h.resolve_right (by decide))), (fun _ => rfl), (fun h => g20 (h.resolve_right (by decide))), (fun h => g21 (h.resolve_right (by decide))), (fun h => g22 (h.resolve_right (by decide))), (fun h => g23 (h.resolve_right (by decide))), (fun h => ⟨.inl (g24 (h.resolve_right (by decide))).1, (g24 (h.resolve_right (by decide))).2⟩)⟩, hfr⟩
              · have r17 := g17 (hd _ rfl ⟨17, .data⟩ (by simp) rfl)
                subst r17
                have r19 := g19 (hd _ rfl ⟨19, .data⟩ (by simp) rfl)
                subst r19
                refine wpOp_plain (i := 20) rfl rfl (fun K' hK => ?_)
                unfold Oper.wp
                go_simp
                rw [HMI.out.2.2.2]
                refine hK _ _ ⟨⟨_, _, _, _, _, _, _, _, _, _, _, _, _, _, _, _, _, _, _, _, _, _, _, _, rfl, (fun h => g0 (h.resolve_right (by decide))), (fun h => g1 (h.resolve_right (by decide))), (fun h => g2 (h.resolve_right (by decide))), (fun h => g3 (h.resolve_right (by decide))), (fun h => g4 (h.resolve_right (by decide))), (fun h => g5 (h.resolve_right (by decide))), (fun h => g6 (h.resolve_right (by decide))), (fun h => g7 (h.resolve_right (by decide))), (fun h => g8 (h.resolve_right (by decide))), (fun h => g9 (h.resolve_right (by decide))), (fun h => g10 (h.resolve_right (by decide))), (fun h => g11 (h.resolve_right (by decide))), (fun h => g12 (h.resolve_right (by decide))), (fun h => g13 (h.resolve_right (by decide))), (fun h => g14 (h.resolve_right (by decide))), (fun h => g15 (h.resolve_right (by decide))), (fun h => g16 (h.resolve_right (by decide))), (fun h => g17 (h.resolve_right (by decide))), (fun h => g18 (h.resolve_right (by decide))), (fun h => g19 (h.resolve_right (by decide))), (fun _ => rfl), (fun h => g21 (h.resolve_right (by decide))), (fun h => g22 (h.resolve_right (by decide))), (fun h => g23 (h.resolve_right (by decide))), (fun h => ⟨.inl (g24 (h.resolve_right (by decide))).1, (g24 (h.resolve_right (by decide))).2⟩)⟩, hfr⟩
              · have r15 := g15 (hd _ rfl ⟨15, .data⟩ (by simp) rfl)
                subst r15
                have r20 := g20 (hd _ rfl ⟨20, .data⟩ (by simp) rfl)
                subst r20
                refine wpOp_plain (i := 21) rfl rfl (fun K' hK => ?_)
                unfold Oper.wp
                go_simp
                (with_reducible refine (HD.out _).mono ?_)
                rintro e w9 ⟨rfl, f⟩
                refine hK _ _ ⟨⟨_, _, _, _, _, _, _, _, _, _, _, _, _, _, _, _, _, _, _, _, _, _, _, _, rfl, (fun h => g0 (h.resolve_right (by decide))), (fun h => g1 (h.resolve_right (by decide))), (fun h => g2 (h.resolve_right (by decide))), (fun h => g3 (h.resolve_right (by decide))), (fun h => g4 (h.resolve_right (by decide))), (fun h => g5 (h.resolve_right (by decide))), (fun h => g6 (h.resolve_right (by decide))), (fun h => g7 (h.resolve_right (by decide))), (fun h => g8 (h.resolve_right (by decide))), (fun h => g9 (h.resolve_right (by decide))), (fun h => g10 (h.resolve_right (by decide))), (fun h => g11 (h.resolve_right (by decide))), (fun h => g12 (h.resolve_right (by decide))), (fun h => g13 (h.resolve_right (by decide))), (fun h => g14 (h.resolve_right (by decide))), (fun h => g15 (h.resolve_right (by decide))), (fun h => g16 (h.resolve_right (by decide))), (fun h => g17 (h.resolve_right (by decide))), (fun h => g18 (h.resolve_right (by decide))), (fun h => g19 (h.resolve_right (by decide))), (fun h => g20 (h.resolve_right (by decide))), (fun _ => rfl), (fun h => g22 (h.resolve_right (by decide))), (fun h => by obtain ⟨z, e, hz, ar, hb, har⟩ := g23 (h.resolve_right (by decide)); exact ⟨z, e, hz, ar, f.blk hb (by simp), har⟩), (fun h => by obtain ⟨h3, z, e, hz, hb⟩ := g24 (h.resolve_right (by decide)); exact ⟨.inl h3, z, e, hz, f.blk hb (by simp)⟩)⟩, (hfr.trans f (by simp))⟩
              · have r10 := g10 (hd _ rfl ⟨10, .data⟩ (by simp) rfl)
                subst r10
                have r21 := g21 (hd _ rfl ⟨21, .data⟩ (by simp) rfl)
                subst r21
                refine wpOp_plain (i := 22) rfl rfl (fun K' hK => ?_)
                unfold Oper.wp
                go_simp
                refine hK _ _ ⟨⟨_, _, _, _, _, _, _, _, _, _, _, _, _, _, _, _, _, _, _, _, _, _, _, _, rfl, (fun h => g0 (h.resolve_right (by decide))), (fun h => g1 (h.resolve_right (by decide))), (fun h => g2 (h.resolve_right (by decide))), (fun h => g3 (h.resolve_right (by decide))), (fun h => g4 (h.resolve_right (by decide))), (fun h => g5 (h.resolve_right (by decide))), (fun h => g6 (h.resolve_right (by decide))), (fun h => g7 (h.resolve_right (by decide))), (fun h => g8 (h.resolve_right (by decide))), (fun h => g9 (h.resolve_right (by decide))), (fun h => g10 (h.resolve_right (by decide))), (fun h => g11 (h.resolve_right (by decide))), (fun h => g12 (h.resolve_right (by decide))), (fun h => g13 (h.resolve_right (by decide))), (fun h => g14 (h.resolve_right (by decide))), (fun h => g15 (h.resolve_right (by decide))), (fun h => g16 (h.resolve_right (by decide))), (fun h => g17 (h.resolve_right (by decide))), (fun h => g18 (h.resolve_right (by decide))), (fun h => g19 (h.resolve_right (by decide))), (fun h => g20 (h.resolve_right (by decide))), (fun h => g21 (h.resolve_right (by decide))), (fun _ => rfl), (fun h => g23 (h.resolve_right (by decide))), (fun h => ⟨.inl (g24 (h.resolve_right (by decide))).1, (g24 (h.resolve_right (by decide))).2⟩)⟩, hfr⟩
              · refine wpOp_plain (i := 23) rfl rfl (fun K' hK => ?_)
                unfold Oper.wp
                go_simp
                refine hK _ _ ⟨⟨_, _, _, _, _, _, _, _, _, _, _, _, _, _, _, _, _, _, _, _, _, _, _, _, rfl, (fun h => g0 (h.resolve_right (by decide))), (fun h => g1 (h.resolve_right (by decide))), (fun h => g2 (h.resolve_right (by decide))), (fun h => g3 (h.resolve_right (by decide))), (fun h => g4 (h.resolve_right (by decide))), (fun h => g5 (h.resolve_right (by decide))), (fun h => g6 (h.resolve_right (by decide))), (fun h => g7 (h.resolve_right (by decide))), (fun h => g8 (h.resolve_right (by decide))), (fun h => g9 (h.resolve_right (by decide))), (fun h => g10 (h.resolve_right (by decide))), (fun h => g11 (h.resolve_right (by decide))), (fun h => g12 (h.resolve_right (by decide))), (fun h => g13 (h.resolve_right (by decide))), (fun h => g14 (h.resolve_right (by decide))), (fun h => g15 (h.resolve_right (by decide))), (fun h => g16 (h.resolve_right (by decide))), (fun h => g17 (h.resolve_right (by decide))), (fun h => g18 (h.resolve_right (by decide))), (fun h => g19 (h.resolve_right (by decide))), (fun h => g20 (h.resolve_right (by decide))), (fun h => g21 (h.resolve_right (by decide))), (fun h => g22 (h.resolve_right (by decide))), (fun _ => ⟨_, rfl, hfr.size, _, Blk.new W _ 39, .inl rfl⟩), (fun h => absurd (g24 (h.resolve_right (by decide))).1 hnp)⟩, (hfr.alloc _)⟩
              · obtain ⟨z, r23, hz, ar, hb, har⟩ := g23 (hd _ rfl ⟨23, .data⟩ (by simp) rfl)
                subst r23
                have r22 := g22 (hd _ rfl ⟨22, .data⟩ (by simp) rfl)
                subst r22
                refine wpOp_plain (i := 24) rfl rfl (fun K' hK => ?_)
                obtain ⟨v0, v1, v2, v3, rfl⟩ : ∃ v0 v1 v2 v3 : Value, ar = #[v0, v1, v2, v3] := by rcases har with rfl | rfl <;> exact ⟨_, _, _, _, rfl⟩
                have c0 := hb.at 0 (v := v0) rfl
                have e0 := hb.free 0
                have c1 := hb.at 1 (v := v1) rfl
                have e1 := hb.free 1
                have c2 := hb.at 2 (v := v2) rfl
                have e2 := hb.free 2
                have c3 := hb.at 3 (v := v3) rfl
                have e3 := hb.free 3
                unfold Oper.wp
                go_simp
                have hb4 : Blk ((((W.setCell ⟨z, 0, none⟩ (.int .i32 m0)).setCell ⟨z, 1, none⟩ (.int .i32 m1)).setCell ⟨z, 2, none⟩ (.int .i32 n0)).setCell ⟨z, 3, none⟩ (.int .i32 n1)) z #[.int .i32 m0, .int .i32 m1, .int .i32 n0, .int .i32 n1] 39 := (((hb.set 0 (.int .i32 m0)).set 1 (.int .i32 m1)).set 2 (.int .i32 n0)).set 3 (.int .i32 n1)
                refine hK _ _ ⟨⟨_, _, _, _, _, _, _, _, _, _, _, _, _, _, _, _, _, _, _, _, _, _, _, _, rfl, (fun h => g0 (h.resolve_right (by decide))), (fun h => g1 (h.resolve_right (by decide))), (fun h => g2 (h.resolve_right (by decide))), (fun h => g3 (h.resolve_right (by decide))), (fun h => g4 (h.resolve_right (by decide))), (fun h => g5 (h.resolve_right (by decide))), (fun h => g6 (h.resolve_right (by decide))), (fun h => g7 (h.resolve_right (by decide))), (fun h => g8 (h.resolve_right (by decide))), (fun h => g9 (h.resolve_right (by decide))), (fun h => g10 (h.resolve_right (by decide))), (fun h => g11 (h.resolve_right (by decide))), (fun h => g12 (h.resolve_right (by decide))), (fun h => g13 (h.resolve_right (by decide))), (fun h => g14 (h.resolve_right (by decide))), (fun h => g15 (h.resolve_right (by decide))), (fun h => g16 (h.resolve_right (by decide))), (fun h => g17 (h.resolve_right (by decide))), (fun h => g18 (h.resolve_right (by decide))), (fun h => g19 (h.resolve_right (by decide))), (fun h => g20 (h.resolve_right (by decide))), (fun h => g21 (h.resolve_right (by decide))), (fun h => g22 (h.resolve_right (by decide))), (fun _ => ⟨z, rfl, hz, _, hb4, .inr rfl⟩), (fun _ => ⟨.inl (hd _ rfl ⟨23, .data⟩ (by simp) rfl), z, rfl, hz, hb4⟩)⟩, ((((hfr.setCell ⟨z, 0, none⟩ (.int .i32 m0) (.inr hz)).setCell ⟨z, 1, none⟩ (.int .i32 m1) (.inr hz)).setCell ⟨z, 2, none⟩ (.int .i32 n0) (.inr hz)).setCell ⟨z, 3, none⟩ (.int .i32 n1) (.inr hz))⟩
            · intro p x W i hI
              obtain ⟨⟨x0, x1, x2, x3, x4, x5, x6, x7, x8, x9, x10, x11, x12, x13, x14, x15, x16, x17, x18, x19, x20, x21, x22, x23, rfl, -, -, -, -, -, -, -, -, -, -, -, -, -, -, -, -, -, -, -, -, -, -, -, -, g24⟩, hfr⟩ := hI
              obtain ⟨_, z, rfl, hz, hb⟩ := g24 (i 24 (by decide))
              simp only [Exit.then]
              go_wp2_with fail
              go_meet
              case rel => exact ⟨z, rfl, hb, hfr⟩
          case rest =>
            obtain ⟨z14, rfl, hb, hg⟩ := hcut
            have HA := Lib.hid (And.intro (HB.out.1.trans hg (by simp)) (And.intro (hg.blk HB.out.2.1 (by simp)) (And.intro (hg.blk HB.out.2.2.1 (by simp)) (And.intro (hg.blk HB.out.2.2.2 (by simp)) hb))))
            clear hg hb HB HC HD HMI
            have a0 := HA.out.2.2.2.2.at 0 (v := .int .i32 m0) rfl
            have a1 := HA.out.2.2.2.2.at 1 (v := .int .i32 m1) rfl
            have a2 := HA.out.2.2.2.2.at 2 (v := .int .i32 n0) rfl
            have a3 := HA.out.2.2.2.2.at 3 (v := .int .i32 n1) rfl
            obtain ⟨L, hL⟩ : ∃ L, (covSeq m0 m1 n0 n1 s).take 401 = L := ⟨_, rfl⟩
            have hlen : L.length ≤ 4611686018427387904 := by rw [← hL]; simp; omega
            obtain ⟨n, hn⟩ : ∃ n, n = L.length := ⟨_, rfl⟩
            obtain ⟨hm0, hm1, hn0, hn1⟩ := HM.out
            have hcl : ((covSeq m0 m1 n0 n1 s).length : Int) = cnt m0 m1 n0 n1 s := by
              refine cov_len HFS.out.1 ?_
              rw [hm0, hm1, hn0, hn1]
              exact cov_ok HFS.out.2.1 HFS.out.2.2
            have hcm : (u, v) ∈ covSeq m0 m1 n0 n1 s := by
              rw [hm0, hm1, hn0, hn1, HUV.out.1, HUV.out.2]
              exact cov_mem HFS.out.1 HFS.out.2.1 HFS.out.2.2
            obtain ⟨ct, hct⟩ : ∃ x, x = cnt m0 m1 n0 n1 s := ⟨_, rfl⟩
            have HCT := Lib.hid (fun w => show Calls Try.prog 20 #[.agg #[.int .i32 m0, .int .i32 m1, .int .i32 n0, .int .i32 n1], .int .i64 s] w fun e w' => e = .returned (.int .i64 ct) ∧ Fr [] w w' from hct ▸ count_any w m0 m1 n0 n1 s)
            have hnum : (n ≤ 400 ∧ ct = (n : Int) ∧ (u, v) ∈ L) ∨ (400 < n ∧ 400 < ct) := by
              rw [hct, ← hcl]
              have e : n = min 401 (covSeq m0 m1 n0 n1 s).length := by rw [hn, ← hL, List.length_take]
              rcases Nat.lt_or_ge 400 n with h | h
              · exact .inr ⟨h, by omega⟩
              · refine .inl ⟨h, by omega, ?_⟩
                rw [← hL, List.take_of_length_le (by omega)]
                exact hcm
            have HL := Lib.hid hL
            have HN := Lib.hid (And.intro hlen hn)
            have HNU := Lib.hid hnum
            clear hL hlen hn hm0 hm1 hn0 hn1 hcl hcm hct hnum HM
            go_wp2_with fail
            (with_reducible refine (cover_any _ _ _ _ _ _).mono ?_)
            rintro e w7 ⟨rfl, hh7, f7⟩
            have HB := Lib.hid (And.intro (HA.out.1.trans f7 (by simp)) (And.intro (f7.blk HA.out.2.1 (by simp)) (And.intro (f7.blk HA.out.2.2.1 (by simp)) (And.intro (f7.blk HA.out.2.2.2.1 (by simp)) (f7.blk HA.out.2.2.2.2 (by simp))))))
            clear f7 HA a0 a1 a2 a3
            go_wp2_with fail
            (with_reducible refine (first_cover _ _ _ _ _ _ _ _ hh7).mono ?_)
            rintro e w8 ⟨v8, rfl, hown, hge, hen, f8⟩
            rw [HL.out] at hown
            have r8 := RdC.of_own hown HN.out.1
            have HA := Lib.hid (And.intro (HB.out.1.trans f8 (by simp)) (And.intro (f8.blk HB.out.2.1 (by simp)) (And.intro (f8.blk HB.out.2.2.1 (by simp)) (And.intro (f8.blk HB.out.2.2.2.1 (by simp)) (And.intro (f8.blk HB.out.2.2.2.2 (by simp)) r8)))))
            obtain ⟨p8, cap8, rfl, hm8, _⟩ := r8
            rw [← HN.out.2] at hm8
            have a0 := HA.out.2.2.2.2.1.at 0 (v := .int .i32 m0) rfl
            have a1 := HA.out.2.2.2.2.1.at 1 (v := .int .i32 m1) rfl
            have a2 := HA.out.2.2.2.2.1.at 2 (v := .int .i32 n0) rfl
            have a3 := HA.out.2.2.2.2.1.at 3 (v := .int .i32 n1) rfl
            clear hown hge hen f8 hh7 HB
            simp only [← HN.out.2]
            rcases HNU.out with ⟨h1, h2, h3⟩ | ⟨h1, h2⟩
            · subst h2
              have h1' : (n : Int) ≤ 400 := by omega
              have h1'' : ¬ (400 : Int) < (n : Int) := by omega
              clear h1 HNU
              go_wp2_with fail
              (with_reducible refine (HCT.out _).mono ?_)
              rintro e w9 ⟨rfl, f9⟩
              have HB := Lib.hid (And.intro (HA.out.1.trans f9 (by simp)) (And.intro (f9.blk HA.out.2.1 (by simp)) (And.intro (f9.blk HA.out.2.2.1 (by simp)) (And.intro (f9.blk HA.out.2.2.2.1 (by simp)) (HA.out.2.2.2.2.2.grow f9)))))
              clear f9 HA a0 a1 a2 a3
              have a0 := HB.out.2.2.2.1.at 0 (v := .int .i32 u) rfl
              have a1 := HB.out.2.2.2.1.at 1 (v := .int .i32 v) rfl
              have r9 := HB.out.2.2.2.2
              rw [← HN.out.2] at r9
              go_wp2_with fail
              (with_reducible refine (isin_any _ _ L _ _ r9 h3).mono ?_)
              rintro e w10 ⟨rfl, f10⟩
              have HA := Lib.hid (And.intro (HB.out.1.trans f10 (by simp)) (And.intro (f10.blk HB.out.2.1 (by simp)) (f10.blk HB.out.2.2.1 (by simp))))
              clear f10 HB r9 a0 a1
              have a0 := HA.out.2.1.at 0 (v := .int .i32 px) rfl
              have a1 := HA.out.2.1.at 1 (v := .int .i32 py) rfl
              have b0 := HA.out.2.2.at 0 (v := .int .i32 qx) rfl
              have b1 := HA.out.2.2.at 1 (v := .int .i32 qy) rfl
              go_wp2_with fail
              (with_reducible refine (SD.out _).mono ?_)
              rintro e w11 ⟨rfl, f11⟩
              have HE := Lib.hid (HA.out.1.trans f11 (by simp))
              clear f11
              go_wp2_with fail
              (with_reducible refine (lives_any _).mono ?_)
              rintro e w12 ⟨rfl, f12⟩
              have HG := Lib.hid (HE.out.trans f12 (by simp))
              clear f12
              go_wp2
              go_ret
              exact ⟨rfl, HG.out⟩
            · have h1' : ¬ (n : Int) ≤ 400 := by omega
              have h1'' : (400 : Int) < (n : Int) := by omega
              have h2' : ¬ ct ≤ 400 := by omega
              clear h1 h2 HNU
              go_wp2_with fail
              (with_reducible refine (HCT.out _).mono ?_)
              rintro e w9 ⟨rfl, f9⟩
              have HB := Lib.hid (And.intro (HA.out.1.trans f9 (by simp)) (And.intro (f9.blk HA.out.2.1 (by simp)) (f9.blk HA.out.2.2.1 (by simp))))
              clear f9 HA a0 a1 a2 a3
              have a0 := HB.out.2.1.at 0 (v := .int .i32 px) rfl
              have a1 := HB.out.2.1.at 1 (v := .int .i32 py) rfl
              have b0 := HB.out.2.2.at 0 (v := .int .i32 qx) rfl
              have b1 := HB.out.2.2.at 1 (v := .int .i32 qy) rfl
              go_wp2_with fail
              (with_reducible refine (SD.out _).mono ?_)
              rintro e w11 ⟨rfl, f11⟩
              have HE := Lib.hid (HB.out.1.trans f11 (by simp))
              clear f11
              go_wp2_with fail
              (with_reducible refine (lives_any _).mono ?_)
              rintro e w12 ⟨rfl, f12⟩
              have HG := Lib.hid (HE.out.trans f12 (by simp))
              clear f12
              go_wp2
              go_ret
              exact ⟨rfl, HG.out⟩

set_option maxRecDepth 100000 in
theorem lifted (os : Os) (started : os.Started) (H : Type) (enc : TypeId × Value → H) :
    ReturnsInHanded {} Try.checked os 6 .any (Rows.cellAllSpec.pre6 enc Try.prog Try.f6 Rows.cellAllRow.domain false) (Rows.cellAllSpec.post enc Try.prog Try.f6 false true false false) := by
  refine returnsInHanded_of_change (C := Try.checked) own started (by kernel_rfl) Try.func6
    (ChangeSpec.witness6 (enc := enc) (C := Try.checked) false ⟨#[], #[.agg #[.int .i32 0, .int .i32 0, .int .i32 0, .int .i32 0, .int .i32 0, .int .i32 0, .int .i32 0, .int .i32 0, .int .i32 0, .int .i32 0], .int .i64 0], []⟩ 8 (by kernel_rfl) (by kernel_rfl) (by kernel_rfl) (by kernel_rfl)) ?_
  intro W base args ds gs before hval0 hW hcnd _
  have hval : ∀ (j : Nat) t v, Try.f6.params[j]? = some t → args[j]? = some v → Value.okWide Try.prog W .any base t v := hval0
  have hW' := hW
  obtain ⟨p, q, hA, hV, rfl, hfz, hnd⟩ := hW
  rw [Try.params6] at hA hval
  obtain ⟨v0, v1, d0, d1, p0, p1, hargs, rfl, rfl, h0, h1⟩ := trodAll_two hA
  obtain ⟨rfl, rfl⟩ := trodVars_none hV
  have : args = #[v0, v1] := by simpa using hargs
  subst this
  obtain ⟨fu0, l0, rfl, e0⟩ := open_agg Try.underlying41 (hval 0 41 v0 rfl rfl) h0
  obtain ⟨px, py, qx, qy, a, b, c, d, ex, ey, rfl, hpx, hpy, hqx, hqy, _, _, _, _, hex, hey⟩ := read_ask e0
  obtain ⟨s, rfl, _, _, ws⟩ := open_int Try.underlying2 (hval 1 2 v1 rfl rfl) h1
  refine (walk W px py qx qy a b c d ex ey s hpx hpy hqx hqy hex hey).mono fun e W' ⟨he, hg⟩ => ?_
  exact ⟨_, he, law_post (tb := 4) laidOut (by
    rw [Try.params6]; intro t ht; simp at ht
    rcases ht with rfl | rfl
    · exact ⟨by kernel_rfl, of_decide_eq_true (by kernel_rfl)⟩
    · exact ⟨by kernel_rfl, of_decide_eq_true (by kernel_rfl)⟩) rfl Try.underlying4 rfl hW' rfl hg⟩
theorem over : Rows.cellAllRow.holds Try.pinned (OpenSpec.ofChange Rows.cellAllSpec) :=
  OpenClaim.holds_of_wide 6 Try.f6 rfl rfl rfl rfl rfl rfl rfl ⟨rfl, rfl, rfl, rfl, rfl⟩ rfl rfl rfl rfl rfl (by kernel_rfl) Try.func6 (by kernel_rfl)
    (of_decide_eq_true (by kernel_rfl)) (by unfold Func.isWrapper; first | (rw [if_pos (by decide +kernel)]; kernel_rfl) | (rw [if_neg (by decide +kernel)]; exact ⟨rfl, rfl⟩))
    (fun os started H enc _ => lifted os started H enc)
/-- The statement CellAll. -/
theorem proved : Rows.CellAllSaid := over
#print axioms proved

end cellAll
end Go.Proofs.Ythagbhiblncpkaa
