/-
  TrackReckons: its walk.
-/
import Derived.Test.YtgoolkgjcmdilaaDoorWayA
namespace Go.Proofs.YtgoolkgjcmdilaaDoor
open Go.RowKit Flo Hed
set_option linter.unusedVariables false
set_option linter.unusedSimpArgs false
attribute [local go_sem] Oper.semAt_some

theorem infoP : (Tryd.prog.info? 98).map (fun i => (i.zero, i.size, i.bytes)) = some (some (.agg #[.int .i32 0, .int .i32 0]), 2, 8) := by kernel_rfl
attribute [local go_sem] bits40
theorem PtS.of_own {w : World} {v : Value} {l : List (Int × Int)} (h : w.ownsRow 0 98 2 v l.length (l.flatMap encP)) (hl : l.length ≤ maxLen) (hb : ∀ p ∈ l, I32 p.1 ∧ I32 p.2) : PtS w v l := ⟨RdF.of_own (by decide) h hl, hb⟩
set_option maxRecDepth 100000 in
set_option maxHeartbeats 1000000 in
theorem reckons_walk (w : World) (hT : DeB w) (o : Int) (px py qx qy t0 t : Int) (v : Value) (l : List (Int × Int)) (h1 : I32 px) (h2 : I32 py) (h3 : I32 qx) (h4 : I32 qy) (h0 : 0 ≤ t0) (hu : t ≤ 4294967295) (hl : PtS w v l) (hs : l.length ≤ 17592186044416) :
    Calls Tryd.prog 8 #[.agg #[.int .u64 o, .int .i32 px, .int .i32 py, .int .i32 qx, .int .i32 qy, .int .u32 t0, .int .u32 t, v]] w (Law w) := by
  obtain ⟨p, cap, rfl, hc1, hc2⟩ := hl.1.form
  obtain ⟨n, hn⟩ : ∃ n, n = l.length := ⟨_, rfl⟩
  have C1 := Lib.hid (fun w => speed_any w o.toNat px py qx qy t0 t h1 h2 h3 h4 h0 hu)
  have C2 := Lib.hid (fun w => rspeed_any w o.toNat px py qx qy t0 t h1 h2 h3 h4 h0 hu)
  have C4 := Lib.hid (fun w => heading_any w px py qx qy h1 h2 h3 h4)
  have C5 := Lib.hid (fun w => rheading_any w px py qx qy h1 h2 h3 h4)
  have HE1 := Lib.hid (show ∀ r r', SpR px py qx qy t0 t o.toNat r → SpR px py qx qy t0 t o.toNat r' → FE r r' from fun r r' h h' => spR_fe (FE.refl _) h h')
  obtain ⟨R1, hR1⟩ : ∃ R1, SpR px py qx qy t0 t o.toNat = R1 := ⟨_, rfl⟩
  obtain ⟨R3, hR3⟩ : ∃ R3, WayR l (l.length - 1) = R3 := ⟨_, rfl⟩
  have HE2 := Lib.hid (show ∀ r r', R3 r → R3 r' → FE r r' from fun r r' h h' => by rw [← hR3] at h h'; exact wayR_fe h h')
  have C6 := Lib.hid (show ∀ W u, PtS W u l → Calls Tryd.prog 45 #[u] W (FRes R3 W) from fun W u h => by rw [← hR3]; exact way_any W u l h hs)
  have C7 := Lib.hid (show ∀ W u, PtS W u l → Calls Tryd.prog 48 #[u] W (FRes R3 W) from fun W u h => by rw [← hR3]; exact rway_any W u l h hs)
  rw [hR1] at C1 C2 HE1
  clear hR1 hR3 h1 h2 h3 h4
  rw [← hn] at hc1 hs hl ⊢
  generalize head (qx - px) (qy - py) = Z at *
  have F0 : Fr [] w (w.alloc (.cells #[.int .u64 o, .int .i32 px, .int .i32 py, .int .i32 qx, .int .i32 qy, .int .u32 t0, .int .u32 t, .slice p n cap] 101)) := (Fr.refl _ _).alloc _
  have hA := Blk.new w #[.int .u64 o, .int .i32 px, .int .i32 py, .int .i32 qx, .int .i32 qy, .int .u32 t0, .int .u32 t, .slice p n cap] 101
  have hl1 := hl.grow F0
  have HL := Lib.hid (And.intro hl1.1 (And.intro hl1.2 (And.intro (flatV_one encP encP_one l) (And.intro hs hn))))
  have HT := Lib.hid (deB_fr2 hT F0)
  have HF := Lib.hid F0
  have hs2 : (n : Int) ≤ 17592186044416 := by omega
  clear F0 hT hl hl1 hc1 hc2 hs hn
  generalize hold : o.toNat = old at *
  have HA := Lib.hid hA
  clear hA
  go_enter Tryd.func8, Tryd.ntmps8
  go_wp2_with (at_builtin; go_must (refine wpList_appF _ rfl _ _ 99 rfl 98 (.agg #[.int .i32 0, .int .i32 0]) 2 8 Tryd.underlying99 infoP rfl (by decide) (.slice none 0 0) 0 [] rfl (World.ownsRow_nil _ _ _ _) (.slice p n cap) n (l.flatMap encP) rfl (by have := HL.out.1; rw [← HL.out.2.2.2.2] at this; exact this) HL.out.2.2.1 (by have := HL.out.2.2.2.1; unfold maxLen; omega) (by have := HL.out.2.2.2.1; omega) ?_); intro v1 w3 happ; have HAP := Lib.hid happ; clear happ)
  obtain ⟨h1, h2, h3, h4, hn⟩ := HL.out
  have happ := HAP.out
  have ho : w3.ownsRow 0 98 2 v1 l.length (l.flatMap encP) := by
    have := happ.own
    rw [Nat.zero_add, List.nil_append] at this
    rw [← hn]; exact this
  have hf3 := happ.fr
  have hf3 : Fr [] (w.alloc (.cells #[.int .u64 o, .int .i32 px, .int .i32 py, .int .i32 qx, .int .i32 qy, .int .u32 t0, .int .u32 t, .slice p n cap] 101)) w3 := hf3.mono (by simp [Value.ownBlock])
  have hp1 : PtS w3 v1 l := PtS.of_own ho (by rw [← hn]; unfold maxLen; omega) h2
  have hp0 : PtS w3 (.slice p n cap) l := ⟨h1.grow hf3, h2⟩
  obtain ⟨p1, cap1, rfl, -, -⟩ := hp1.1.form
  obtain ⟨a0, ha0⟩ : ∃ a0, a0 = w.heap.size := ⟨_, rfl⟩
  have hA3 := hf3.blk HA.out (by simp)
  rw [← ha0] at hA3 ⊢
  have HA3 := Lib.hid hA3
  have HT3 := Lib.hid (deB_fr2 HT.out hf3)
  have HF3 := Lib.hid (HF.out.trans hf3 (by simp))
  have HP3 := Lib.hid (And.intro hp1 (And.intro hp0 hn))
  clear h1 h2 h3 h4 hn happ ho hf3 hp1 hp0 ha0 hA3 HA HT HF HL HAP
  (with_reducible refine (C6.out _ _ HP3.out.1).mono ?_)
  rintro e w4 ⟨rw, rfl, hr, f4⟩
  have HR := Lib.hid hr
  have HA := Lib.hid (f4.blk HA3.out (by simp))
  have HT := Lib.hid (deB_fr2 HT3.out f4)
  have HF := Lib.hid (HF3.out.trans f4 (by simp))
  have HP := Lib.hid (And.intro (HP3.out.1.grow f4) (And.intro (HP3.out.2.1.grow f4) HP3.out.2.2))
  clear hr f4 HA3 HT3 HF3 HP3
  have HN := Lib.hid HP.out.2.2
  rw [← HN.out]
  go_wp2
  go_loopw [6] (fun i wr => ∃ k : Nat, k ≤ n ∧ i = .int .i64 k ∧ Fr [] w4 wr) (fun i _ => n - (intOf i).toNat)
  case atStart => exact ⟨0, by omega, rfl, Fr.refl _ _⟩
  case round =>
    obtain ⟨k, hk, rfl, hf⟩ := hrel
    have HG := Lib.hid hf
    by_cases hlt : k < n
    · obtain ⟨a, ha⟩ : ∃ a, l[k]? = some a := ⟨_, List.getElem?_eq_getElem (by have := HN.out; omega)⟩
      obtain ⟨g1, o1, cp1, hv1, -, -, hA1⟩ := RdF.at encP encP_len (HP.out.1.grow hf).1 ha
      obtain ⟨g0, o0, cp0, hv0, -, -, hA0⟩ := RdF.at encP encP_len (HP.out.2.1.grow hf).1 ha
      obtain rfl := (Value.slice.inj hv1).1
      obtain rfl := (Value.slice.inj hv0).1
      clear hv1 hv0
      have a0c := hA1 0 _ rfl
      have a1c := hA1 1 _ rfl
      have b0c := hA0 0 _ rfl
      have b1c := hA0 1 _ rfl
      rw [Nat.add_zero] at a0c b0c
      rw [← Nat.add_assoc] at a1c b1c
      have c7 := (hf.blk HA.out (by simp)).at 7 (v := .slice (some ⟨g0, o0, none⟩) n cap) rfl
      obtain ⟨x, y⟩ := a
      clear hA1 hA0 ha hf
      dsimp only at a0c a1c b0c b1c
      go_wp2_with fail
      go_quiet (fail)
      go_wp2
      go_roundw
      case rel => exact ⟨k + 1, by omega, by go_num, HG.out.drewN _⟩
      case measure => simp [intOf]; omega
    · have HA5 := Lib.hid (hf.blk HA.out (by simp))
      have HT5 := Lib.hid (deB_fr2 HT.out hf)
      have HF5 := Lib.hid (HF.out.trans hf (by simp))
      have C3 := Lib.hid (show ∀ W, Fr [] wr W → Calls Tryd.prog 48 #[.slice p n cap] W (FRes R3 W) from fun W f => C7.out W _ (HP.out.2.1.grow (hf.trans f (by simp))))
      have HE3 := Lib.hid (show ∀ r, R3 r → FE rw r from fun r h => HE2.out _ _ HR.out h)
      clear hf HA HT HF HP HG HR HE2 C6 C7
      go_wp2_with fail
      refine region_grow (by kernel_rfl) (by kernel_rfl) [.is (.float .f64 old), .is (.pointer (some ⟨a0, 1, none⟩)), .is (.agg #[.int .i32 px, .int .i32 py]), .is (.pointer (some ⟨a0, 3, none⟩)), .is (.agg #[.int .i32 qx, .int .i32 qy]), .is (.pointer (some ⟨a0, 5, none⟩)), .is (.int .u32 t0), .is (.pointer (some ⟨a0, 6, none⟩)), .is (.int .u32 t), .flo R1, .is (.float .f64 old), .is (.pointer (some ⟨a0, 1, none⟩)), .is (.agg #[.int .i32 px, .int .i32 py]), .is (.pointer (some ⟨a0, 3, none⟩)), .is (.agg #[.int .i32 qx, .int .i32 qy]), .is (.pointer (some ⟨a0, 5, none⟩)), .is (.int .u32 t0), .is (.pointer (some ⟨a0, 6, none⟩)), .is (.int .u32 t), .flo R1, .is (.bool true), .is (.bool true), .is (.float .f64 rw), .is (.pointer (some ⟨a0, 7, none⟩)), .is (.slice p n cap), .flo R3, .is (.bool true), .is (.bool true), .is (.bool true), .is (.pointer (some ⟨a0, 1, none⟩)), .is (.agg #[.int .i32 px, .int .i32 py]), .is (.pointer (some ⟨a0, 3, none⟩)), .is (.agg #[.int .i32 qx, .int .i32 qy]), .is (.int .i64 Z), .is (.pointer (some ⟨a0, 1, none⟩)), .is (.agg #[.int .i32 px, .int .i32 py]), .is (.pointer (some ⟨a0, 3, none⟩)), .is (.agg #[.int .i32 qx, .int .i32 qy]), .is (.int .i64 Z), .is (.bool true), .is (.bool true), .is (.bool true), .is (.bool true), .is (.bool true), .is (.bool true)] 75 rfl (by kernel_rfl) [(0, 31), (1, 32), (2, 33), (3, 34), (4, 35), (5, 36), (6, 37), (7, 38), (8, 39), (9, 40), (10, 41), (11, 42), (12, 43), (13, 44), (14, 45), (15, 46), (16, 47), (17, 48), (18, 49), (19, 50), (20, 51), (21, 52), (22, 53), (23, 54), (24, 55), (25, 56), (26, 57), (27, 58), (28, 59), (29, 60), (30, 61), (31, 62), (32, 63), (33, 64), (34, 65), (35, 66), (36, 67), (37, 68), (38, 69), (39, 70), (40, 71), (41, 72), (42, 73), (43, 74), (44, 2)] (by kernel_rfl) ?_ ?_
      · intro q a1 W1 i hi hnq hd hG K hK
        have hlt : i < 45 := hi
        have hc : i = 0 ∨ i = 1 ∨ i = 2 ∨ i = 3 ∨ i = 4 ∨ i = 5 ∨ i = 6 ∨ i = 7 ∨ i = 8 ∨ i = 9 ∨ i = 10 ∨ i = 11 ∨ i = 12 ∨ i = 13 ∨ i = 14 ∨ i = 15 ∨ i = 16 ∨ i = 17 ∨ i = 18 ∨ i = 19 ∨ i = 20 ∨ i = 21 ∨ i = 22 ∨ i = 23 ∨ i = 24 ∨ i = 25 ∨ i = 26 ∨ i = 27 ∨ i = 28 ∨ i = 29 ∨ i = 30 ∨ i = 31 ∨ i = 32 ∨ i = 33 ∨ i = 34 ∨ i = 35 ∨ i = 36 ∨ i = 37 ∨ i = 38 ∨ i = 39 ∨ i = 40 ∨ i = 41 ∨ i = 42 ∨ i = 43 ∨ i = 44 := by omega
        rcases hc with rfl | rfl | rfl | rfl | rfl | rfl | rfl | rfl | rfl | rfl | rfl | rfl | rfl | rfl | rfl | rfl | rfl | rfl | rfl | rfl | rfl | rfl | rfl | rfl | rfl | rfl | rfl | rfl | rfl | rfl | rfl | rfl | rfl | rfl | rfl | rfl | rfl | rfl | rfl | rfl | rfl | rfl | rfl | rfl | rfl
        · have e3 := hG.old 3 (by kernel_rfl)
          refine op_do rfl (wanted_none rfl) hK (fun K' hK' => ?_)
          unfold Oper.wp
          go_simp
          exact hK' _ _ (Fr.refl _ _) rfl
        · have e1 := hG.old 1 (by kernel_rfl)
          refine op_do rfl (wanted_none rfl) hK (fun K' hK' => ?_)
          unfold Oper.wp
          go_simp
          exact hK' _ _ (Fr.refl _ _) rfl
        · have e32 := hG.val (v := .pointer (some ⟨a0, 1, none⟩)) 1 32 (hd _ rfl ⟨1, .data⟩ (by simp) rfl) rfl rfl
          have c1 := (hG.grown.blk HA5.out (by simp)).at 1 (v := .int .i32 px) rfl
          have c2 := (hG.grown.blk HA5.out (by simp)).at 2 (v := .int .i32 py) rfl
          have c3 := (hG.grown.blk HA5.out (by simp)).at 3 (v := .int .i32 qx) rfl
          have c4 := (hG.grown.blk HA5.out (by simp)).at 4 (v := .int .i32 qy) rfl
          have c5 := (hG.grown.blk HA5.out (by simp)).at 5 (v := .int .u32 t0) rfl
          have c6 := (hG.grown.blk HA5.out (by simp)).at 6 (v := .int .u32 t) rfl
          have c7 := (hG.grown.blk HA5.out (by simp)).at 7 (v := .slice p n cap) rfl
          refine op_do rfl (wanted_none rfl) hK (fun K' hK' => ?_)
          unfold Oper.wp
          go_simp
          exact hK' _ _ (Fr.refl _ _) rfl
        · have e1 := hG.old 1 (by kernel_rfl)
          refine op_do rfl (wanted_none rfl) hK (fun K' hK' => ?_)
          unfold Oper.wp
          go_simp
          exact hK' _ _ (Fr.refl _ _) rfl
        · have e34 := hG.val (v := .pointer (some ⟨a0, 3, none⟩)) 3 34 (hd _ rfl ⟨3, .data⟩ (by simp) rfl) rfl rfl
          have c1 := (hG.grown.blk HA5.out (by simp)).at 1 (v := .int .i32 px) rfl
          have c2 := (hG.grown.blk HA5.out (by simp)).at 2 (v := .int .i32 py) rfl
          have c3 := (hG.grown.blk HA5.out (by simp)).at 3 (v := .int .i32 qx) rfl
          have c4 := (hG.grown.blk HA5.out (by simp)).at 4 (v := .int .i32 qy) rfl
          have c5 := (hG.grown.blk HA5.out (by simp)).at 5 (v := .int .u32 t0) rfl
          have c6 := (hG.grown.blk HA5.out (by simp)).at 6 (v := .int .u32 t) rfl
          have c7 := (hG.grown.blk HA5.out (by simp)).at 7 (v := .slice p n cap) rfl
          refine op_do rfl (wanted_none rfl) hK (fun K' hK' => ?_)
          unfold Oper.wp
          go_simp
          exact hK' _ _ (Fr.refl _ _) rfl
        · have e1 := hG.old 1 (by kernel_rfl)
          refine op_do rfl (wanted_none rfl) hK (fun K' hK' => ?_)
          unfold Oper.wp
          go_simp
          exact hK' _ _ (Fr.refl _ _) rfl
        · have e36 := hG.val (v := .pointer (some ⟨a0, 5, none⟩)) 5 36 (hd _ rfl ⟨5, .data⟩ (by simp) rfl) rfl rfl
          have c1 := (hG.grown.blk HA5.out (by simp)).at 1 (v := .int .i32 px) rfl
          have c2 := (hG.grown.blk HA5.out (by simp)).at 2 (v := .int .i32 py) rfl
          have c3 := (hG.grown.blk HA5.out (by simp)).at 3 (v := .int .i32 qx) rfl
          have c4 := (hG.grown.blk HA5.out (by simp)).at 4 (v := .int .i32 qy) rfl
          have c5 := (hG.grown.blk HA5.out (by simp)).at 5 (v := .int .u32 t0) rfl
          have c6 := (hG.grown.blk HA5.out (by simp)).at 6 (v := .int .u32 t) rfl
          have c7 := (hG.grown.blk HA5.out (by simp)).at 7 (v := .slice p n cap) rfl
          refine op_do rfl (wanted_none rfl) hK (fun K' hK' => ?_)
          unfold Oper.wp
          go_simp
          exact hK' _ _ (Fr.refl _ _) rfl
        · have e1 := hG.old 1 (by kernel_rfl)
          refine op_do rfl (wanted_none rfl) hK (fun K' hK' => ?_)
          unfold Oper.wp
          go_simp
          exact hK' _ _ (Fr.refl _ _) rfl
        · have e38 := hG.val (v := .pointer (some ⟨a0, 6, none⟩)) 7 38 (hd _ rfl ⟨7, .data⟩ (by simp) rfl) rfl rfl
          have c1 := (hG.grown.blk HA5.out (by simp)).at 1 (v := .int .i32 px) rfl
          have c2 := (hG.grown.blk HA5.out (by simp)).at 2 (v := .int .i32 py) rfl
          have c3 := (hG.grown.blk HA5.out (by simp)).at 3 (v := .int .i32 qx) rfl
          have c4 := (hG.grown.blk HA5.out (by simp)).at 4 (v := .int .i32 qy) rfl
          have c5 := (hG.grown.blk HA5.out (by simp)).at 5 (v := .int .u32 t0) rfl
          have c6 := (hG.grown.blk HA5.out (by simp)).at 6 (v := .int .u32 t) rfl
          have c7 := (hG.grown.blk HA5.out (by simp)).at 7 (v := .slice p n cap) rfl
          refine op_do rfl (wanted_none rfl) hK (fun K' hK' => ?_)
          unfold Oper.wp
          go_simp
          exact hK' _ _ (Fr.refl _ _) rfl
        · have e31 := hG.val (v := .float .f64 old) 0 31 (hd _ rfl ⟨0, .data⟩ (by simp) rfl) rfl rfl
          have e33 := hG.val (v := .agg #[.int .i32 px, .int .i32 py]) 2 33 (hd _ rfl ⟨2, .data⟩ (by simp) rfl) rfl rfl
          have e35 := hG.val (v := .agg #[.int .i32 qx, .int .i32 qy]) 4 35 (hd _ rfl ⟨4, .data⟩ (by simp) rfl) rfl rfl
          have e37 := hG.val (v := .int .u32 t0) 6 37 (hd _ rfl ⟨6, .data⟩ (by simp) rfl) rfl rfl
          have e39 := hG.val (v := .int .u32 t) 8 39 (hd _ rfl ⟨8, .data⟩ (by simp) rfl) rfl rfl
          refine op_do rfl (wanted_none rfl) hK (fun K' hK' => ?_)
          unfold Oper.wp
          go_simp
          refine (C1.out _).mono ?_
          rintro e W2 ⟨r, rfl, hr, f2⟩
          exact hK' _ _ f2 ⟨r, rfl, hr⟩
        · have e3 := hG.old 3 (by kernel_rfl)
          refine op_do rfl (wanted_none rfl) hK (fun K' hK' => ?_)
          unfold Oper.wp
          go_simp
          exact hK' _ _ (Fr.refl _ _) rfl
        · have e1 := hG.old 1 (by kernel_rfl)
          refine op_do rfl (wanted_none rfl) hK (fun K' hK' => ?_)
          unfold Oper.wp
          go_simp
          exact hK' _ _ (Fr.refl _ _) rfl
        · have e42 := hG.val (v := .pointer (some ⟨a0, 1, none⟩)) 11 42 (hd _ rfl ⟨11, .data⟩ (by simp) rfl) rfl rfl
          have c1 := (hG.grown.blk HA5.out (by simp)).at 1 (v := .int .i32 px) rfl
          have c2 := (hG.grown.blk HA5.out (by simp)).at 2 (v := .int .i32 py) rfl
          have c3 := (hG.grown.blk HA5.out (by simp)).at 3 (v := .int .i32 qx) rfl
          have c4 := (hG.grown.blk HA5.out (by simp)).at 4 (v := .int .i32 qy) rfl
          have c5 := (hG.grown.blk HA5.out (by simp)).at 5 (v := .int .u32 t0) rfl
          have c6 := (hG.grown.blk HA5.out (by simp)).at 6 (v := .int .u32 t) rfl
          have c7 := (hG.grown.blk HA5.out (by simp)).at 7 (v := .slice p n cap) rfl
          refine op_do rfl (wanted_none rfl) hK (fun K' hK' => ?_)
          unfold Oper.wp
          go_simp
          exact hK' _ _ (Fr.refl _ _) rfl
        · have e1 := hG.old 1 (by kernel_rfl)
          refine op_do rfl (wanted_none rfl) hK (fun K' hK' => ?_)
          unfold Oper.wp
          go_simp
          exact hK' _ _ (Fr.refl _ _) rfl
        · have e44 := hG.val (v := .pointer (some ⟨a0, 3, none⟩)) 13 44 (hd _ rfl ⟨13, .data⟩ (by simp) rfl) rfl rfl
          have c1 := (hG.grown.blk HA5.out (by simp)).at 1 (v := .int .i32 px) rfl
          have c2 := (hG.grown.blk HA5.out (by simp)).at 2 (v := .int .i32 py) rfl
          have c3 := (hG.grown.blk HA5.out (by simp)).at 3 (v := .int .i32 qx) rfl
          have c4 := (hG.grown.blk HA5.out (by simp)).at 4 (v := .int .i32 qy) rfl
          have c5 := (hG.grown.blk HA5.out (by simp)).at 5 (v := .int .u32 t0) rfl
          have c6 := (hG.grown.blk HA5.out (by simp)).at 6 (v := .int .u32 t) rfl
          have c7 := (hG.grown.blk HA5.out (by simp)).at 7 (v := .slice p n cap) rfl
          refine op_do rfl (wanted_none rfl) hK (fun K' hK' => ?_)
          unfold Oper.wp
          go_simp
          exact hK' _ _ (Fr.refl _ _) rfl
        · have e1 := hG.old 1 (by kernel_rfl)
          refine op_do rfl (wanted_none rfl) hK (fun K' hK' => ?_)
          unfold Oper.wp
          go_simp
          exact hK' _ _ (Fr.refl _ _) rfl
        · have e46 := hG.val (v := .pointer (some ⟨a0, 5, none⟩)) 15 46 (hd _ rfl ⟨15, .data⟩ (by simp) rfl) rfl rfl
          have c1 := (hG.grown.blk HA5.out (by simp)).at 1 (v := .int .i32 px) rfl
          have c2 := (hG.grown.blk HA5.out (by simp)).at 2 (v := .int .i32 py) rfl
          have c3 := (hG.grown.blk HA5.out (by simp)).at 3 (v := .int .i32 qx) rfl
          have c4 := (hG.grown.blk HA5.out (by simp)).at 4 (v := .int .i32 qy) rfl
          have c5 := (hG.grown.blk HA5.out (by simp)).at 5 (v := .int .u32 t0) rfl
          have c6 := (hG.grown.blk HA5.out (by simp)).at 6 (v := .int .u32 t) rfl
          have c7 := (hG.grown.blk HA5.out (by simp)).at 7 (v := .slice p n cap) rfl
          refine op_do rfl (wanted_none rfl) hK (fun K' hK' => ?_)
          unfold Oper.wp
          go_simp
          exact hK' _ _ (Fr.refl _ _) rfl
        · have e1 := hG.old 1 (by kernel_rfl)
          refine op_do rfl (wanted_none rfl) hK (fun K' hK' => ?_)
          unfold Oper.wp
          go_simp
          exact hK' _ _ (Fr.refl _ _) rfl
        · have e48 := hG.val (v := .pointer (some ⟨a0, 6, none⟩)) 17 48 (hd _ rfl ⟨17, .data⟩ (by simp) rfl) rfl rfl
          have c1 := (hG.grown.blk HA5.out (by simp)).at 1 (v := .int .i32 px) rfl
          have c2 := (hG.grown.blk HA5.out (by simp)).at 2 (v := .int .i32 py) rfl
          have c3 := (hG.grown.blk HA5.out (by simp)).at 3 (v := .int .i32 qx) rfl
          have c4 := (hG.grown.blk HA5.out (by simp)).at 4 (v := .int .i32 qy) rfl
          have c5 := (hG.grown.blk HA5.out (by simp)).at 5 (v := .int .u32 t0) rfl
          have c6 := (hG.grown.blk HA5.out (by simp)).at 6 (v := .int .u32 t) rfl
          have c7 := (hG.grown.blk HA5.out (by simp)).at 7 (v := .slice p n cap) rfl
          refine op_do rfl (wanted_none rfl) hK (fun K' hK' => ?_)
          unfold Oper.wp
          go_simp
          exact hK' _ _ (Fr.refl _ _) rfl
        · have e41 := hG.val (v := .float .f64 old) 10 41 (hd _ rfl ⟨10, .data⟩ (by simp) rfl) rfl rfl
          have e43 := hG.val (v := .agg #[.int .i32 px, .int .i32 py]) 12 43 (hd _ rfl ⟨12, .data⟩ (by simp) rfl) rfl rfl
          have e45 := hG.val (v := .agg #[.int .i32 qx, .int .i32 qy]) 14 45 (hd _ rfl ⟨14, .data⟩ (by simp) rfl) rfl rfl
          have e47 := hG.val (v := .int .u32 t0) 16 47 (hd _ rfl ⟨16, .data⟩ (by simp) rfl) rfl rfl
          have e49 := hG.val (v := .int .u32 t) 18 49 (hd _ rfl ⟨18, .data⟩ (by simp) rfl) rfl rfl
          refine op_do rfl (wanted_none rfl) hK (fun K' hK' => ?_)
          unfold Oper.wp
          go_simp
          refine (C2.out _).mono ?_
          rintro e W2 ⟨r, rfl, hr, f2⟩
          exact hK' _ _ f2 ⟨r, rfl, hr⟩
        · obtain ⟨u9, e40, s9⟩ := hG.get 9 40 (hd _ rfl ⟨9, .data⟩ (by simp) rfl) rfl; obtain ⟨r9, hr9, s9⟩ := s9; subst hr9
          obtain ⟨u19, e50, s19⟩ := hG.get 19 50 (hd _ rfl ⟨19, .data⟩ (by simp) rfl) rfl; obtain ⟨r19, hr19, s19⟩ := s19; subst hr19
          refine op_do rfl (wanted_none rfl) hK (fun K' hK' => ?_)
          unfold Oper.wp
          go_simp
          refine (same_any _ _ _ (HE1.out _ _ s9 s19)).mono ?_
          rintro e W2 ⟨rfl, rfl⟩
          exact hK' _ _ (Fr.refl _ _) rfl
        · have e51 := hG.val (v := .bool true) 20 51 (hd _ rfl ⟨20, .data⟩ (by simp) rfl) rfl rfl
          refine op_do rfl (wanted_none rfl) hK (fun K' hK' => ?_)
          unfold Oper.wp
          go_simp
          exact hK' _ _ (Fr.refl _ _) rfl
        · have e5 := hG.old 5 (by kernel_rfl)
          have eg := hG.val (v := .bool true) 21 52 (hd _ rfl ⟨21, .guard⟩ (by simp) rfl) rfl rfl
          refine op_do rfl (by simp [Region.wanted, yielded, eg]) hK (fun K' hK' => ?_)
          unfold Oper.wp
          go_simp
          exact hK' _ _ (Fr.refl _ _) rfl
        · have e1 := hG.old 1 (by kernel_rfl)
          have eg := hG.val (v := .bool true) 21 52 (hd _ rfl ⟨21, .guard⟩ (by simp) rfl) rfl rfl
          refine op_do rfl (by simp [Region.wanted, yielded, eg]) hK (fun K' hK' => ?_)
          unfold Oper.wp
          go_simp
          exact hK' _ _ (Fr.refl _ _) rfl
        · have e54 := hG.val (v := .pointer (some ⟨a0, 7, none⟩)) 23 54 (hd _ rfl ⟨23, .data⟩ (by simp) rfl) rfl rfl
          have eg := hG.val (v := .bool true) 21 52 (hd _ rfl ⟨21, .guard⟩ (by simp) rfl) rfl rfl
          have c1 := (hG.grown.blk HA5.out (by simp)).at 1 (v := .int .i32 px) rfl
          have c2 := (hG.grown.blk HA5.out (by simp)).at 2 (v := .int .i32 py) rfl
          have c3 := (hG.grown.blk HA5.out (by simp)).at 3 (v := .int .i32 qx) rfl
          have c4 := (hG.grown.blk HA5.out (by simp)).at 4 (v := .int .i32 qy) rfl
          have c5 := (hG.grown.blk HA5.out (by simp)).at 5 (v := .int .u32 t0) rfl
          have c6 := (hG.grown.blk HA5.out (by simp)).at 6 (v := .int .u32 t) rfl
          have c7 := (hG.grown.blk HA5.out (by simp)).at 7 (v := .slice p n cap) rfl
          refine op_do rfl (by simp [Region.wanted, yielded, eg]) hK (fun K' hK' => ?_)
          unfold Oper.wp
          go_simp
          exact hK' _ _ (Fr.refl _ _) rfl
        · have e55 := hG.val (v := .slice p n cap) 24 55 (hd _ rfl ⟨24, .data⟩ (by simp) rfl) rfl rfl
          have eg := hG.val (v := .bool true) 21 52 (hd _ rfl ⟨21, .guard⟩ (by simp) rfl) rfl rfl
          refine op_do rfl (by simp [Region.wanted, yielded, eg]) hK (fun K' hK' => ?_)
          unfold Oper.wp
          go_simp
          refine ((C3.out _) (hG.grown)).mono ?_
          rintro e W2 ⟨r, rfl, hr, f2⟩
          exact hK' _ _ f2 ⟨r, rfl, hr⟩
        · have e53 := hG.val (v := .float .f64 rw) 22 53 (hd _ rfl ⟨22, .data⟩ (by simp) rfl) rfl rfl
          obtain ⟨u25, e56, s25⟩ := hG.get 25 56 (hd _ rfl ⟨25, .data⟩ (by simp) rfl) rfl; obtain ⟨r25, hr25, s25⟩ := s25; subst hr25
          have eg := hG.val (v := .bool true) 21 52 (hd _ rfl ⟨21, .guard⟩ (by simp) rfl) rfl rfl
          refine op_do rfl (by simp [Region.wanted, yielded, eg]) hK (fun K' hK' => ?_)
          unfold Oper.wp
          go_simp
          refine (same_any _ _ _ (HE3.out _ s25)).mono ?_
          rintro e W2 ⟨rfl, rfl⟩
          exact hK' _ _ (Fr.refl _ _) rfl
        · have e52 := hG.val (v := .bool true) 21 52 (hd _ rfl ⟨21, .data⟩ (by simp) rfl) rfl rfl
          have e57 := hG.val (v := .bool true) 26 57 (hd _ rfl ⟨26, .data⟩ (by simp) rfl) rfl rfl
          refine op_do rfl (wanted_none rfl) hK (fun K' hK' => ?_)
          unfold Oper.wp
          go_simp
          exact hK' _ _ (Fr.refl _ _) rfl
        · have e58 := hG.val (v := .bool true) 27 58 (hd _ rfl ⟨27, .data⟩ (by simp) rfl) rfl rfl
          refine op_do rfl (wanted_none rfl) hK (fun K' hK' => ?_)
          unfold Oper.wp
          go_simp
          exact hK' _ _ (Fr.refl _ _) rfl
        · have e1 := hG.old 1 (by kernel_rfl)
          have eg := hG.val (v := .bool true) 28 59 (hd _ rfl ⟨28, .guard⟩ (by simp) rfl) rfl rfl
          refine op_do rfl (by simp [Region.wanted, yielded, eg]) hK (fun K' hK' => ?_)
          unfold Oper.wp
          go_simp
          exact hK' _ _ (Fr.refl _ _) rfl
        · have e60 := hG.val (v := .pointer (some ⟨a0, 1, none⟩)) 29 60 (hd _ rfl ⟨29, .data⟩ (by simp) rfl) rfl rfl
          have eg := hG.val (v := .bool true) 28 59 (hd _ rfl ⟨28, .guard⟩ (by simp) rfl) rfl rfl
          have c1 := (hG.grown.blk HA5.out (by simp)).at 1 (v := .int .i32 px) rfl
          have c2 := (hG.grown.blk HA5.out (by simp)).at 2 (v := .int .i32 py) rfl
          have c3 := (hG.grown.blk HA5.out (by simp)).at 3 (v := .int .i32 qx) rfl
          have c4 := (hG.grown.blk HA5.out (by simp)).at 4 (v := .int .i32 qy) rfl
          have c5 := (hG.grown.blk HA5.out (by simp)).at 5 (v := .int .u32 t0) rfl
          have c6 := (hG.grown.blk HA5.out (by simp)).at 6 (v := .int .u32 t) rfl
          have c7 := (hG.grown.blk HA5.out (by simp)).at 7 (v := .slice p n cap) rfl
          refine op_do rfl (by simp [Region.wanted, yielded, eg]) hK (fun K' hK' => ?_)
          unfold Oper.wp
          go_simp
          exact hK' _ _ (Fr.refl _ _) rfl
        · have e1 := hG.old 1 (by kernel_rfl)
          have eg := hG.val (v := .bool true) 28 59 (hd _ rfl ⟨28, .guard⟩ (by simp) rfl) rfl rfl
          refine op_do rfl (by simp [Region.wanted, yielded, eg]) hK (fun K' hK' => ?_)
          unfold Oper.wp
          go_simp
          exact hK' _ _ (Fr.refl _ _) rfl
        · have e62 := hG.val (v := .pointer (some ⟨a0, 3, none⟩)) 31 62 (hd _ rfl ⟨31, .data⟩ (by simp) rfl) rfl rfl
          have eg := hG.val (v := .bool true) 28 59 (hd _ rfl ⟨28, .guard⟩ (by simp) rfl) rfl rfl
          have c1 := (hG.grown.blk HA5.out (by simp)).at 1 (v := .int .i32 px) rfl
          have c2 := (hG.grown.blk HA5.out (by simp)).at 2 (v := .int .i32 py) rfl
          have c3 := (hG.grown.blk HA5.out (by simp)).at 3 (v := .int .i32 qx) rfl
          have c4 := (hG.grown.blk HA5.out (by simp)).at 4 (v := .int .i32 qy) rfl
          have c5 := (hG.grown.blk HA5.out (by simp)).at 5 (v := .int .u32 t0) rfl
          have c6 := (hG.grown.blk HA5.out (by simp)).at 6 (v := .int .u32 t) rfl
          have c7 := (hG.grown.blk HA5.out (by simp)).at 7 (v := .slice p n cap) rfl
          refine op_do rfl (by simp [Region.wanted, yielded, eg]) hK (fun K' hK' => ?_)
          unfold Oper.wp
          go_simp
          exact hK' _ _ (Fr.refl _ _) rfl
        · have e61 := hG.val (v := .agg #[.int .i32 px, .int .i32 py]) 30 61 (hd _ rfl ⟨30, .data⟩ (by simp) rfl) rfl rfl
          have e63 := hG.val (v := .agg #[.int .i32 qx, .int .i32 qy]) 32 63 (hd _ rfl ⟨32, .data⟩ (by simp) rfl) rfl rfl
          have eg := hG.val (v := .bool true) 28 59 (hd _ rfl ⟨28, .guard⟩ (by simp) rfl) rfl rfl
          refine op_do rfl (by simp [Region.wanted, yielded, eg]) hK (fun K' hK' => ?_)
          unfold Oper.wp
          go_simp
          refine (C4.out _).mono ?_
          rintro e W2 ⟨rfl, f2⟩
          exact hK' _ _ f2 rfl
        · have e1 := hG.old 1 (by kernel_rfl)
          have eg := hG.val (v := .bool true) 28 59 (hd _ rfl ⟨28, .guard⟩ (by simp) rfl) rfl rfl
          refine op_do rfl (by simp [Region.wanted, yielded, eg]) hK (fun K' hK' => ?_)
          unfold Oper.wp
          go_simp
          exact hK' _ _ (Fr.refl _ _) rfl
        · have e65 := hG.val (v := .pointer (some ⟨a0, 1, none⟩)) 34 65 (hd _ rfl ⟨34, .data⟩ (by simp) rfl) rfl rfl
          have eg := hG.val (v := .bool true) 28 59 (hd _ rfl ⟨28, .guard⟩ (by simp) rfl) rfl rfl
          have c1 := (hG.grown.blk HA5.out (by simp)).at 1 (v := .int .i32 px) rfl
          have c2 := (hG.grown.blk HA5.out (by simp)).at 2 (v := .int .i32 py) rfl
          have c3 := (hG.grown.blk HA5.out (by simp)).at 3 (v := .int .i32 qx) rfl
          have c4 := (hG.grown.blk HA5.out (by simp)).at 4 (v := .int .i32 qy) rfl
          have c5 := (hG.grown.blk HA5.out (by simp)).at 5 (v := .int .u32 t0) rfl
          have c6 := (hG.grown.blk HA5.out (by simp)).at 6 (v := .int .u32 t) rfl
          have c7 := (hG.grown.blk HA5.out (by simp)).at 7 (v := .slice p n cap) rfl
          refine op_do rfl (by simp [Region.wanted, yielded, eg]) hK (fun K' hK' => ?_)
          unfold Oper.wp
          go_simp
          exact hK' _ _ (Fr.refl _ _) rfl
        · have e1 := hG.old 1 (by kernel_rfl)
          have eg := hG.val (v := .bool true) 28 59 (hd _ rfl ⟨28, .guard⟩ (by simp) rfl) rfl rfl
          refine op_do rfl (by simp [Region.wanted, yielded, eg]) hK (fun K' hK' => ?_)
          unfold Oper.wp
          go_simp
          exact hK' _ _ (Fr.refl _ _) rfl
        · have e67 := hG.val (v := .pointer (some ⟨a0, 3, none⟩)) 36 67 (hd _ rfl ⟨36, .data⟩ (by simp) rfl) rfl rfl
          have eg := hG.val (v := .bool true) 28 59 (hd _ rfl ⟨28, .guard⟩ (by simp) rfl) rfl rfl
          have c1 := (hG.grown.blk HA5.out (by simp)).at 1 (v := .int .i32 px) rfl
          have c2 := (hG.grown.blk HA5.out (by simp)).at 2 (v := .int .i32 py) rfl
          have c3 := (hG.grown.blk HA5.out (by simp)).at 3 (v := .int .i32 qx) rfl
          have c4 := (hG.grown.blk HA5.out (by simp)).at 4 (v := .int .i32 qy) rfl
          have c5 := (hG.grown.blk HA5.out (by simp)).at 5 (v := .int .u32 t0) rfl
          have c6 := (hG.grown.blk HA5.out (by simp)).at 6 (v := .int .u32 t) rfl
          have c7 := (hG.grown.blk HA5.out (by simp)).at 7 (v := .slice p n cap) rfl
          refine op_do rfl (by simp [Region.wanted, yielded, eg]) hK (fun K' hK' => ?_)
          unfold Oper.wp
          go_simp
          exact hK' _ _ (Fr.refl _ _) rfl
        · have e66 := hG.val (v := .agg #[.int .i32 px, .int .i32 py]) 35 66 (hd _ rfl ⟨35, .data⟩ (by simp) rfl) rfl rfl
          have e68 := hG.val (v := .agg #[.int .i32 qx, .int .i32 qy]) 37 68 (hd _ rfl ⟨37, .data⟩ (by simp) rfl) rfl rfl
          have eg := hG.val (v := .bool true) 28 59 (hd _ rfl ⟨28, .guard⟩ (by simp) rfl) rfl rfl
          refine op_do rfl (by simp [Region.wanted, yielded, eg]) hK (fun K' hK' => ?_)
          unfold Oper.wp
          go_simp
          refine (C5.out _).mono ?_
          rintro e W2 ⟨rfl, f2⟩
          exact hK' _ _ f2 rfl
        · have e64 := hG.val (v := .int .i64 Z) 33 64 (hd _ rfl ⟨33, .data⟩ (by simp) rfl) rfl rfl
          have e69 := hG.val (v := .int .i64 Z) 38 69 (hd _ rfl ⟨38, .data⟩ (by simp) rfl) rfl rfl
          have eg := hG.val (v := .bool true) 28 59 (hd _ rfl ⟨28, .guard⟩ (by simp) rfl) rfl rfl
          refine op_do rfl (by simp [Region.wanted, yielded, eg]) hK (fun K' hK' => ?_)
          unfold Oper.wp
          go_simp
          exact hK' _ _ (Fr.refl _ _) rfl
        · have e59 := hG.val (v := .bool true) 28 59 (hd _ rfl ⟨28, .data⟩ (by simp) rfl) rfl rfl
          have e70 := hG.val (v := .bool true) 39 70 (hd _ rfl ⟨39, .data⟩ (by simp) rfl) rfl rfl
          refine op_do rfl (wanted_none rfl) hK (fun K' hK' => ?_)
          unfold Oper.wp
          go_simp
          exact hK' _ _ (Fr.refl _ _) rfl
        · have e71 := hG.val (v := .bool true) 40 71 (hd _ rfl ⟨40, .data⟩ (by simp) rfl) rfl rfl
          refine op_do rfl (wanted_none rfl) hK (fun K' hK' => ?_)
          unfold Oper.wp
          go_simp
          exact hK' _ _ (Fr.refl _ _) rfl
        · have eg := hG.val (v := .bool true) 41 72 (hd _ rfl ⟨41, .guard⟩ (by simp) rfl) rfl rfl
          refine op_do rfl (by simp [Region.wanted, yielded, eg]) hK (fun K' hK' => ?_)
          unfold Oper.wp
          go_simp
          refine (works_any _ (deB_fr2 HT5.out hG.grown)).mono ?_
          rintro e W2 ⟨rfl, f2⟩
          exact hK' _ _ f2 rfl
        · have e72 := hG.val (v := .bool true) 41 72 (hd _ rfl ⟨41, .data⟩ (by simp) rfl) rfl rfl
          have e73 := hG.val (v := .bool true) 42 73 (hd _ rfl ⟨42, .data⟩ (by simp) rfl) rfl rfl
          refine op_do rfl (wanted_none rfl) hK (fun K' hK' => ?_)
          unfold Oper.wp
          go_simp
          exact hK' _ _ (Fr.refl _ _) rfl
        · have e74 := hG.val (v := .bool true) 43 74 (hd _ rfl ⟨43, .data⟩ (by simp) rfl) rfl rfl
          refine op_do rfl (wanted_none rfl) hK (fun K' hK' => ?_)
          unfold Oper.wp
          go_simp
          exact hK' _ _ (Fr.refl _ _) rfl
      · intro vs W1 f1 hv
        have r0 : vs 0 = .float .f64 old := hv 0 31 (by decide) rfl
        have r1 : vs 1 = .pointer (some ⟨a0, 1, none⟩) := hv 1 32 (by decide) rfl
        have r2 : vs 2 = .agg #[.int .i32 px, .int .i32 py] := hv 2 33 (by decide) rfl
        have r3 : vs 3 = .pointer (some ⟨a0, 3, none⟩) := hv 3 34 (by decide) rfl
        have r4 : vs 4 = .agg #[.int .i32 qx, .int .i32 qy] := hv 4 35 (by decide) rfl
        have r5 : vs 5 = .pointer (some ⟨a0, 5, none⟩) := hv 5 36 (by decide) rfl
        have r6 : vs 6 = .int .u32 t0 := hv 6 37 (by decide) rfl
        have r7 : vs 7 = .pointer (some ⟨a0, 6, none⟩) := hv 7 38 (by decide) rfl
        have r8 : vs 8 = .int .u32 t := hv 8 39 (by decide) rfl
        have r9 := hv 9 40 (by decide) rfl
        have r10 : vs 10 = .float .f64 old := hv 10 41 (by decide) rfl
        have r11 : vs 11 = .pointer (some ⟨a0, 1, none⟩) := hv 11 42 (by decide) rfl
        have r12 : vs 12 = .agg #[.int .i32 px, .int .i32 py] := hv 12 43 (by decide) rfl
        have r13 : vs 13 = .pointer (some ⟨a0, 3, none⟩) := hv 13 44 (by decide) rfl
        have r14 : vs 14 = .agg #[.int .i32 qx, .int .i32 qy] := hv 14 45 (by decide) rfl
        have r15 : vs 15 = .pointer (some ⟨a0, 5, none⟩) := hv 15 46 (by decide) rfl
        have r16 : vs 16 = .int .u32 t0 := hv 16 47 (by decide) rfl
        have r17 : vs 17 = .pointer (some ⟨a0, 6, none⟩) := hv 17 48 (by decide) rfl
        have r18 : vs 18 = .int .u32 t := hv 18 49 (by decide) rfl
        have r19 := hv 19 50 (by decide) rfl
        have r20 : vs 20 = .bool true := hv 20 51 (by decide) rfl
        have r21 : vs 21 = .bool true := hv 21 52 (by decide) rfl
        have r22 : vs 22 = .float .f64 rw := hv 22 53 (by decide) rfl
        have r23 : vs 23 = .pointer (some ⟨a0, 7, none⟩) := hv 23 54 (by decide) rfl
        have r24 : vs 24 = .slice p n cap := hv 24 55 (by decide) rfl
        have r25 := hv 25 56 (by decide) rfl
        have r26 : vs 26 = .bool true := hv 26 57 (by decide) rfl
        have r27 : vs 27 = .bool true := hv 27 58 (by decide) rfl
        have r28 : vs 28 = .bool true := hv 28 59 (by decide) rfl
        have r29 : vs 29 = .pointer (some ⟨a0, 1, none⟩) := hv 29 60 (by decide) rfl
        have r30 : vs 30 = .agg #[.int .i32 px, .int .i32 py] := hv 30 61 (by decide) rfl
        have r31 : vs 31 = .pointer (some ⟨a0, 3, none⟩) := hv 31 62 (by decide) rfl
        have r32 : vs 32 = .agg #[.int .i32 qx, .int .i32 qy] := hv 32 63 (by decide) rfl
        have r33 : vs 33 = .int .i64 Z := hv 33 64 (by decide) rfl
        have r34 : vs 34 = .pointer (some ⟨a0, 1, none⟩) := hv 34 65 (by decide) rfl
        have r35 : vs 35 = .agg #[.int .i32 px, .int .i32 py] := hv 35 66 (by decide) rfl
        have r36 : vs 36 = .pointer (some ⟨a0, 3, none⟩) := hv 36 67 (by decide) rfl
        have r37 : vs 37 = .agg #[.int .i32 qx, .int .i32 qy] := hv 37 68 (by decide) rfl
        have r38 : vs 38 = .int .i64 Z := hv 38 69 (by decide) rfl
        have r39 : vs 39 = .bool true := hv 39 70 (by decide) rfl
        have r40 : vs 40 = .bool true := hv 40 71 (by decide) rfl
        have r41 : vs 41 = .bool true := hv 41 72 (by decide) rfl
        have r42 : vs 42 = .bool true := hv 42 73 (by decide) rfl
        have r43 : vs 43 = .bool true := hv 43 74 (by decide) rfl
        have r44 : vs 44 = .bool true := hv 44 2 (by decide) rfl
        simp only [lay, List.foldl_cons, List.foldl_nil, r0, r1, r2, r3, r4, r5, r6, r7, r8, r10, r11, r12, r13, r14, r15, r16, r17, r18, r20, r21, r22, r23, r24, r26, r27, r28, r29, r30, r31, r32, r33, r34, r35, r36, r37, r38, r39, r40, r41, r42, r43, r44]
        simp only [List.setIfInBounds_toArray, List.set_cons_zero, List.set_cons_succ]
        clear hv r0 r1 r2 r3 r4 r5 r6 r7 r8 r10 r11 r12 r13 r14 r15 r16 r17 r18 r20 r21 r22 r23 r24 r26 r27 r28 r29 r30 r31 r32 r33 r34 r35 r36 r37 r38 r39 r40 r41 r42 r43 r44
        go_wp2
        go_ret
        exact ⟨rfl, HF5.out.trans f1 (by simp)⟩
end Go.Proofs.YtgoolkgjcmdilaaDoor
