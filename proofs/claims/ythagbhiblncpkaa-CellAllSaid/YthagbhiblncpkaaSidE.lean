/-
  side: the cells of a segment are neighbours.
-/
import Derived.Test.YthagbhiblncpkaaSidD
import Derived.Test.YthagbhiblncpkaaCellM
import Derived.Test.YthagbhiblncpkaaCellV
import Derived.BigQuiet
import Derived.Deep.CutBlock
import Derived.Deep.DeepCutAuto
namespace Go.Proofs.Ythagbhiblncpkaa
open Go.RowKit Go.Shelf
set_option linter.unusedVariables false
attribute [local go_sem] Oper.semAt_some

theorem cast_pred (m : Nat) : ((m + 1 : Nat) : Int) - 1 = (m : Int) := by omega
theorem cast_ne (m : Nat) : (((m + 1 : Nat) : Int) == 0) = false := by rw [beq_eq_false_iff_ne]; omega
theorem w64n {m n : Nat} (h : m < n) (hn : n ≤ 4611686018427387904) : wrap64 (m : Int) = (m : Int) := w64 (by omega)
theorem w64i {m n : Nat} (h : m < n) (hn : n ≤ 4611686018427387904) : IntKind.i64.wrap (m : Int) = (m : Int) := wr (by omega)
theorem w64s {m n : Nat} (h : m < n) (hn : n ≤ 4611686018427387904) : wrap64 ((m : Int) + 1) = (m : Int) + 1 := w64 (by omega)
theorem w32y {y a b : Int} (h : min a b ≤ y ∧ y ≤ max a b) (ha : -1073741823 ≤ a ∧ a ≤ 1073741823) (hb : -1073741823 ≤ b ∧ b ≤ 1073741823) : IntKind.i32.wrap (y + 1) = y + 1 ∧ IntKind.i32.wrap (y - 1) = y - 1 := by
  rw [IntKind.wrap_i32, IntKind.wrap_i32]; omega
theorem not_below {a b : Int} (h : a ≤ b + 1) : ¬ b < a - 1 := by omega
theorem some_below {T : List (Int × Int)} {l m : Nat} {a : Int × Int} (h : T[m]? = some a) (hl : l ≤ m) : ∃ z, T[l]? = some z := by
  obtain ⟨hm, _⟩ := List.getElem?_eq_some_iff.1 h
  exact ⟨T[l]'(by omega), List.getElem?_eq_getElem (by omega)⟩
theorem col_ne (x : Int) : x ≠ x + 1 := by omega
theorem cells_at {w w' : World} {g o : Nat} {T : List (Int × Int)} (hcs : ∀ k (hk : k < T.length), w.cell? ⟨g, o + k * 2, none⟩ = some (.int .i32 T[k].1) ∧ w.cell? ⟨g, o + k * 2 + 1, none⟩ = some (.int .i32 T[k].2))
    (hf : Fr [] w w') {k : Nat} {a b : Int} (h : T[k]? = some (a, b)) :
    w'.cell? ⟨g, o + k * 2, none⟩ = some (.int .i32 a) ∧ w'.cell? ⟨g, o + k * 2 + 1, none⟩ = some (.int .i32 b) := by
  obtain ⟨hk, e⟩ := List.getElem?_eq_some_iff.1 h
  have hc := hcs k hk
  rw [e] at hc
  exact ⟨(hf.cell (World.block_lt_of_cell? _ _ hc.1) (by simp)).trans hc.1, (hf.cell (World.block_lt_of_cell? _ _ hc.2) (by simp)).trans hc.2⟩
set_option maxRecDepth 100000 in
set_option maxHeartbeats 4000000 in
theorem side_any (w : World) (px py qx qy s : Int) (hok : lineOk px py qx qy s = true) : Calls Try.prog 29 #[pt px py, pt qx qy, .int .i64 s] w fun e w' => e = .returned (.bool true) ∧ Fr [] w w' := by
  obtain ⟨T, hT⟩ : ∃ T, (lineSeq px py qx qy s).take 401 = T := ⟨_, rfl⟩
  have hlen : T.length ≤ 4611686018427387904 := by rw [← hT]; simp; omega
  have HT := Lib.hid hT
  have HN := Lib.hid hlen
  have HK := Lib.hid hok
  have hok2 := hok
  unfold lineOk at hok2
  simp only [Bool.and_eq_true] at hok2
  obtain ⟨⟨hf, hp⟩, hq⟩ := hok2
  obtain ⟨bx1, bx2, by1, by2⟩ := inB_iff.1 hp
  obtain ⟨cx1, cx2, cy1, cy2⟩ := inB_iff.1 hq
  have e1 : ofV px py s = Value.tuple #[.agg #[.int .i32 (px / s), .int .i32 (py / s)], .int .i64 0] := by simp [ofV, hf]
  have e2 : ofV qx qy s = Value.tuple #[.agg #[.int .i32 (qx / s), .int .i32 (qy / s)], .int .i64 0] := by simp [ofV, hf]
  have hO1 := fun w => Of_any w px py s (by unfold I32; omega) (by unfold I32; omega)
  have hO2 := fun w => Of_any w qx qy s (by unfold I32; omega) (by unfold I32; omega)
  simp only [e1] at hO1
  simp only [e2] at hO2
  unfold pt at hO1 hO2
  have O1 := Lib.hid hO1
  have O2 := Lib.hid hO2
  have s12 := fits_iff.1 hf
  have HFT := Lib.hid (And.intro (ediv_bd px s 1073741823 (by omega) (by omega) (by omega) (by omega)) (And.intro (ediv_bd py s 1073741823 (by omega) (by omega) (by omega) (by omega)) (And.intro (ediv_bd qx s 1073741823 (by omega) (by omega) (by omega) (by omega)) (ediv_bd qy s 1073741823 (by omega) (by omega) (by omega) (by omega)))))
  clear s12 hT hlen hok hf hp hq bx1 bx2 by1 by2 cx1 cx2 cy1 cy2 e1 e2 hO1 hO2
  unfold pt
  go_enter Try.func29, Try.ntmps29
  go_wp2_with fail
  (with_reducible refine (Line_post _ _ _ _ _ _).mono ?_)
  rintro e w2 ⟨bs, bp, bq, rfl, hh, hb1, hb2, f2⟩
  have hc0 := (f2.blk ((Blk.new w #[.int .i32 px, .int .i32 py] 23).alloc _) (by simp))
  have hc1 := (f2.blk (Blk.new_at (w := w.alloc (.cells #[.int .i32 px, .int .i32 py] 23)) (k := w.heap.size + 1) (by simp) #[.int .i32 qx, .int .i32 qy] 23) (by simp))
  have F2 : Fr [] w w2 := (((Fr.refl [] w).alloc _).alloc _).trans f2 (by simp)
  have hp : w.heap.size + 2 ≤ bp ∧ w.heap.size + 2 ≤ bq := by simp at hb1 hb2; omega
  have H2 := Lib.hid (And.intro F2 (And.intro hp (And.intro hc0 hc1)))
  clear F2 hp hb1 hb2 hc0 hc1 f2
  go_wp2_with fail
  (with_reducible refine (first_line _ _ _ _ _ _ _ _ _ hh).mono ?_)
  rintro e w3 ⟨v3, rfl, hown, hge, hen, f3⟩
  rw [HT.out] at hown
  have hr := RdC.of_own hown HN.out
  have G : ∀ x, x ∈ [bp, bq] → x ∈ ([] : List Nat) ∨ w.heap.size ≤ x := by intro x hx; have := H2.out.2.1; simp at hx; omega
  have H3 := Lib.hid (And.intro (H2.out.1.trans f3 G) (And.intro (f3.blk H2.out.2.2.1 (by have := H2.out.2.1; simp; omega)) (And.intro (f3.blk H2.out.2.2.2 (by have := H2.out.2.1; simp; omega)) hr)))
  obtain ⟨p3, cap3, rfl, hm3, hr3⟩ := hr
  obtain ⟨z3, hz3⟩ : ∃ z, z = w.heap.size := ⟨_, rfl⟩
  obtain ⟨z4, hz4⟩ : ∃ z, z = w.heap.size + 1 := ⟨_, rfl⟩
  rw [← hz4, ← hz3] at H3
  simp only [← hz4]
  simp only [← hz3]
  obtain ⟨n, hn⟩ : ∃ n, n = T.length := ⟨_, rfl⟩
  simp only [← hn]
  rw [← hn] at hm3
  have HNN := Lib.hid hn
  have HZZ := Lib.hid (And.intro hz3 hz4)
  clear hn hown hge hen f3 hh G hr3 hz3 hz4 H2
  by_cases h4 : 400 < n
  · go_wp2
    go_ret
    exact ⟨rfl, H3.out.1⟩
  · have c0 := H3.out.2.1.at 0 (v := .int .i32 px) rfl
    have c1 := H3.out.2.1.at 1 (v := .int .i32 py) rfl
    go_wp2_with fail
    (with_reducible refine (O1.out _).mono ?_)
    rintro e w4 ⟨rfl, f4⟩
    have H4 := Lib.hid (And.intro ((H3.out.1.trans f4 (by simp)).alloc (.cells #[.int .i32 (px / s), .int .i32 (py / s)] 33)) (And.intro ((f4.blk H3.out.2.1 (by simp)).alloc (.cells #[.int .i32 (px / s), .int .i32 (py / s)] 33)) (And.intro ((f4.blk H3.out.2.2.1 (by simp)).alloc (.cells #[.int .i32 (px / s), .int .i32 (py / s)] 33)) (And.intro ((H3.out.2.2.2.grow f4).grow ((Fr.refl [] w4).alloc (.cells #[.int .i32 (px / s), .int .i32 (py / s)] 33))) (Blk.new w4 #[.int .i32 (px / s), .int .i32 (py / s)] 33)))))
    clear f4 c0 c1 H3
    have c0 := H4.out.2.2.1.at 0 (v := .int .i32 qx) rfl
    have c1 := H4.out.2.2.1.at 1 (v := .int .i32 qy) rfl
    obtain ⟨z8, e8⟩ : ∃ z, z = w4.heap.size := ⟨_, rfl⟩
    go_wp2_with fail
    simp only [← e8] at *
    clear e8
    generalize w4.alloc _ = wa at *
    clear c0 c1
    (with_reducible refine (O2.out _).mono ?_)
    rintro e w5 ⟨rfl, f5⟩
    have H5 := Lib.hid (And.intro ((H4.out.1.trans f5 (by simp)).alloc (.cells #[.int .i32 (qx / s), .int .i32 (qy / s)] 33)) (And.intro ((f5.blk H4.out.2.1 (by simp)).alloc (.cells #[.int .i32 (qx / s), .int .i32 (qy / s)] 33)) (And.intro ((f5.blk H4.out.2.2.1 (by simp)).alloc (.cells #[.int .i32 (qx / s), .int .i32 (qy / s)] 33)) (And.intro ((H4.out.2.2.2.1.grow f5).grow ((Fr.refl [] w5).alloc (.cells #[.int .i32 (qx / s), .int .i32 (qy / s)] 33))) (And.intro ((f5.blk H4.out.2.2.2.2 (by simp)).alloc (.cells #[.int .i32 (qx / s), .int .i32 (qy / s)] 33)) (Blk.new w5 #[.int .i32 (qx / s), .int .i32 (qy / s)] 33))))))
    clear f5 H4
    have c0 := H5.out.2.2.2.2.1.at 0 (v := .int .i32 (px / s)) rfl
    have c1 := H5.out.2.2.2.2.1.at 1 (v := .int .i32 (py / s)) rfl
    obtain ⟨z10, e10⟩ : ∃ z, z = w5.heap.size := ⟨_, rfl⟩
    go_wp2_with fail
    simp only [← e10] at *
    clear e10
    generalize w5.alloc _ = wb at *
    clear c0 c1
    have hTL : T = lineSeq px py qx qy s := by
      have h1 := HT.out
      have h2 : T.length ≤ 400 := by rw [← HNN.out]; omega
      rw [← h1, List.length_take] at h2
      rw [← h1]
      exact List.take_of_length_le (by omega)
    have HTL := Lib.hid hTL
    have m1 : (px / s, py / s) ∈ T := by rw [hTL]; exact (line_ends HK.out).1
    have m2 : (qx / s, qy / s) ∈ T := by rw [hTL]; exact (line_ends HK.out).2
    have r1 := H5.out.2.2.2.1
    rw [← HNN.out] at r1
    (with_reducible refine (isin_any _ _ T _ _ r1 m1).mono ?_)
    rintro e w6 ⟨rfl, f6⟩
    have H6 := Lib.hid (And.intro (H5.out.1.trans f6 (by simp)) (And.intro (f6.blk H5.out.2.1 (by simp)) (And.intro (f6.blk H5.out.2.2.1 (by simp)) (And.intro (r1.grow f6) (And.intro (f6.blk H5.out.2.2.2.2.1 (by simp)) (f6.blk H5.out.2.2.2.2.2 (by simp)))))))
    clear f6 H5 r1 m1 hTL
    have c0 := H6.out.2.2.2.2.2.at 0 (v := .int .i32 (qx / s)) rfl
    have c1 := H6.out.2.2.2.2.2.at 1 (v := .int .i32 (qy / s)) rfl
    go_wp2_with fail
    have r1 := H6.out.2.2.2.1
    (with_reducible refine (isin_any _ _ T _ _ r1 m2).mono ?_)
    rintro e w7 ⟨rfl, f7⟩
    have H7 := Lib.hid (And.intro (H6.out.1.trans f7 (by simp)) (And.intro (f7.blk H6.out.2.1 (by simp)) (And.intro (f7.blk H6.out.2.2.1 (by simp)) (And.intro (r1.grow f7) (And.intro (f7.blk H6.out.2.2.2.2.1 (by simp)) (f7.blk H6.out.2.2.2.2.2 (by simp)))))))
    clear f7 H6 r1 m2 c0 c1
    have c0 := H7.out.2.1.at 0 (v := .int .i32 px) rfl
    have c1 := H7.out.2.1.at 1 (v := .int .i32 py) rfl
    have c2 := H7.out.2.2.1.at 0 (v := .int .i32 qx) rfl
    have c3 := H7.out.2.2.1.at 1 (v := .int .i32 qy) rfl
    go_wp2_with fail
    (with_reducible refine (Line_post _ _ _ _ _ _).mono ?_)
    rintro e w8 ⟨bs2, bp2, bq2, rfl, hh, hb1, hb2, f8⟩
    have H8 := Lib.hid (And.intro f8 (And.intro hb1 hb2))
    clear c0 c1 c2 c3 hb1 hb2 f8
    go_wp2_with fail
    (with_reducible refine (first_line _ _ _ _ _ _ _ _ _ hh).mono ?_)
    rintro e w9 ⟨v9, rfl, hown, hge, hen, f9⟩
    rw [line_symm HK.out, HT.out] at hown
    have r9 := RdC.of_own hown HN.out
    have F79 : Fr [] w7 w9 := H8.out.1.trans f9 (by intro x hx; have := H8.out.2; simp at hx; omega)
    have H9 := Lib.hid (And.intro (H7.out.1.trans F79 (by simp)) (And.intro (H7.out.2.2.2.1.grow F79) (And.intro (F79.blk H7.out.2.2.2.2.1 (by simp)) (F79.blk H7.out.2.2.2.2.2 (by simp)))))
    clear hown hge hen f9 hh F79 H7 H8
    have q9 := H9.out.2.1
    go_wp2_with fail
    (with_reducible refine (same_any _ _ _ T T q9 r9).mono ?_)
    rintro e wc ⟨rfl, fc⟩
    have HC := Lib.hid (And.intro (H9.out.1.trans fc (by simp)) (And.intro (H9.out.2.1.grow fc) (And.intro (fc.blk H9.out.2.2.1 (by simp)) (fc.blk H9.out.2.2.2 (by simp)))))
    clear fc q9 r9 H9
    rw [decide_eq_true rfl]
    go_wp2_with fail
    have HNB := Lib.hid (show Nb T from HTL.out ▸ line_nb HK.out)
    have HIN := Lib.hid (fun a (ha : a ∈ T) => line_in_box HK.out (HTL.out ▸ ha))
    have hp3 : n = 0 ∨ ∃ g o, p3 = some ⟨g, o, none⟩ ∧ ∀ k (hk : k < T.length), wc.cell? ⟨g, o + k * 2, none⟩ = some (.int .i32 T[k].1) ∧ wc.cell? ⟨g, o + k * 2 + 1, none⟩ = some (.int .i32 T[k].2) := by
      obtain ⟨p', cap', e, _, h⟩ := HC.out.2.1
      cases e
      rcases h with h | h
      · exact .inl (by rw [HNN.out]; exact h)
      · exact .inr h
    have HP := Lib.hid hp3
    clear hp3 O1 O2 HT HN
    generalize px / s = ax at *
    generalize py / s = ay at *
    generalize qx / s = bx at *
    generalize qy / s = by' at *
    go_loopw [12, 13, 14] (fun lw hw i wr => ∃ k : Nat, i = .int .i64 k ∧ k ≤ n ∧ Fr [] wc wr ∧
      ((k = 0 ∧ lw = .int .i64 0 ∧ hw = .int .i64 0) ∨
        (∃ (l m : Nat), k = m + 1 ∧ lw = .int .i64 l ∧ hw = .int .i64 m ∧ l ≤ m ∧ ((T[l]?).map (·.1) = (T[m]?).map (·.1)) ∧ ∀ j z a, l = j + 1 → T[j]? = some z → T[l]? = some a → z.1 ≠ a.1))) (fun _ _ i _ => n - (intOf i).toNat)
    case atStart => exact ⟨0, rfl, Nat.zero_le _, Fr.refl _ _, .inl ⟨rfl, rfl, rfl⟩⟩
    case round =>
      obtain ⟨k, rfl, hk, hf, hlh⟩ := hrel
      obtain ⟨wi, rfl⟩ : ∃ wi : World, wi = wr := ⟨_, rfl⟩
      have HLH := Lib.hid hlh
      have HF := Lib.hid hf
      have a0 := (hf.blk HC.out.2.2.1 (by simp)).at 0 (v := .int .i32 ax) rfl
      have a1 := (hf.blk HC.out.2.2.1 (by simp)).at 1 (v := .int .i32 ay) rfl
      have b0 := (hf.blk HC.out.2.2.2 (by simp)).at 0 (v := .int .i32 bx) rfl
      have b1 := (hf.blk HC.out.2.2.2 (by simp)).at 1 (v := .int .i32 by') rfl
      clear hf
      by_cases hlt : k < n
      · have hkT : k < T.length := by rw [← HNN.out]; exact hlt
        obtain ⟨g, o, rfl, cs⟩ := HP.out.resolve_left (by omega)
        have t1 := (HF.out.cell (World.block_lt_of_cell? wc _ (cs k hkT).1) (by simp)).trans (cs k hkT).1
        have t2 := (HF.out.cell (World.block_lt_of_cell? wc _ (cs k hkT).2) (by simp)).trans (cs k hkT).2
        have hin := HIN.out T[k] (List.getElem_mem _)
        have g1 : (0 : Int) ≤ (k : Int) := by omega
        have g2 : (k : Int) < (n : Int) := by omega
        have HCS := Lib.hid cs
        clear cs hlh
        generalize hz : T[k] = z at t1 t2 hin
        have HZ := Lib.hid hz
        clear hz
        obtain ⟨x1, x2⟩ := z
        dsimp only at t1 t2 hin
        obtain ⟨⟨i1, i2⟩, i3, i4⟩ := hin
        obtain ⟨v1, v2, v3, v4⟩ := HFT.out
        have w1' := w64 (x := x1) (by omega)
        have w2' := w64 (x := ax) (by omega)
        have w3' := w64 (x := bx) (by omega)
        go_wp2_with fail
        go_cut [113] (fun t wx => t = .bool false ∧ Fr [] wi wx)
        case first =>
          have hcm : (min ax bx ≤ x1 ∧ x1 ≤ max ax bx) ∧ min ay by' ≤ x2 ∧ x2 ≤ max ay by' := ⟨⟨i1, i2⟩, i3, i4⟩
          clear i1 i2 i3 i4
          rcases Int.lt_trichotomy bx ax with hx | rfl | hx <;> rcases Int.lt_trichotomy by' ay with hy | rfl | hy
          · as_aux_lemma =>
            have d1 : ¬ x1 < bx := by omega
            have d2 : ¬ ax < x1 := by omega
            have d3 : ¬ x2 < by' := by omega
            have d4 : ¬ ay < x2 := by omega
            have hx2 : ¬ ax < bx := by omega
            have hy2 : ¬ ay < by' := by omega
            clear hcm
            go_quiet (fail)
            go_wp2_with fail
            go_meet
            case rel => exact ⟨rfl, (Fr.refl _ _).drewN _⟩
          · as_aux_lemma =>
            have d1 : ¬ x1 < bx := by omega
            have d2 : ¬ ax < x1 := by omega
            have d3 : ¬ x2 < by' := by omega
            have d4 : ¬ by' < x2 := by omega
            have hx2 : ¬ ax < bx := by omega
            skip
            clear hcm
            go_quiet (fail)
            go_wp2_with fail
            go_meet
            case rel => exact ⟨rfl, (Fr.refl _ _).drewN _⟩
          · as_aux_lemma =>
            have d1 : ¬ x1 < bx := by omega
            have d2 : ¬ ax < x1 := by omega
            have d3 : ¬ x2 < ay := by omega
            have d4 : ¬ by' < x2 := by omega
            have hx2 : ¬ ax < bx := by omega
            have hy2 : ¬ by' < ay := by omega
            clear hcm
            go_quiet (fail)
            go_wp2_with fail
            go_meet
            case rel => exact ⟨rfl, (Fr.refl _ _).drewN _⟩
          · as_aux_lemma =>
            have d1 : ¬ x1 < bx := by omega
            have d2 : ¬ bx < x1 := by omega
            have d3 : ¬ x2 < by' := by omega
            have d4 : ¬ ay < x2 := by omega
            skip
            have hy2 : ¬ ay < by' := by omega
            clear hcm
            go_quiet (fail)
            go_wp2_with fail
            go_meet
            case rel => exact ⟨rfl, (Fr.refl _ _).drewN _⟩
          · as_aux_lemma =>
            have d1 : ¬ x1 < bx := by omega
            have d2 : ¬ bx < x1 := by omega
            have d3 : ¬ x2 < by' := by omega
            have d4 : ¬ by' < x2 := by omega
            skip
            skip
            clear hcm
            go_quiet (fail)
            go_wp2_with fail
            go_meet
            case rel => exact ⟨rfl, (Fr.refl _ _).drewN _⟩
          · as_aux_lemma =>
            have d1 : ¬ x1 < bx := by omega
            have d2 : ¬ bx < x1 := by omega
            have d3 : ¬ x2 < ay := by omega
            have d4 : ¬ by' < x2 := by omega
            skip
            have hy2 : ¬ by' < ay := by omega
            clear hcm
            go_quiet (fail)
            go_wp2_with fail
            go_meet
            case rel => exact ⟨rfl, (Fr.refl _ _).drewN _⟩
          · as_aux_lemma =>
            have d1 : ¬ x1 < ax := by omega
            have d2 : ¬ bx < x1 := by omega
            have d3 : ¬ x2 < by' := by omega
            have d4 : ¬ ay < x2 := by omega
            have hx2 : ¬ bx < ax := by omega
            have hy2 : ¬ ay < by' := by omega
            clear hcm
            go_quiet (fail)
            go_wp2_with fail
            go_meet
            case rel => exact ⟨rfl, (Fr.refl _ _).drewN _⟩
          · as_aux_lemma =>
            have d1 : ¬ x1 < ax := by omega
            have d2 : ¬ bx < x1 := by omega
            have d3 : ¬ x2 < by' := by omega
            have d4 : ¬ by' < x2 := by omega
            have hx2 : ¬ bx < ax := by omega
            skip
            clear hcm
            go_quiet (fail)
            go_wp2_with fail
            go_meet
            case rel => exact ⟨rfl, (Fr.refl _ _).drewN _⟩
          · as_aux_lemma =>
            have d1 : ¬ x1 < ax := by omega
            have d2 : ¬ bx < x1 := by omega
            have d3 : ¬ x2 < ay := by omega
            have d4 : ¬ by' < x2 := by omega
            have hx2 : ¬ bx < ax := by omega
            have hy2 : ¬ by' < ay := by omega
            clear hcm
            go_quiet (fail)
            go_wp2_with fail
            go_meet
            case rel => exact ⟨rfl, (Fr.refl _ _).drewN _⟩
        case rest =>
          obtain ⟨rfl, hfc⟩ := hcut
          have HF2 := Lib.hid (HF.out.trans hfc (by simp))
          have t1 := (hfc.cell (World.block_lt_of_cell? wi _ t1) (by simp)).trans t1
          have t2 := (hfc.cell (World.block_lt_of_cell? wi _ t2) (by simp)).trans t2
          clear hfc HF a0 a1 b0 b1 i1 i2 i3 i4 w1' w2' w3' v1 v2 v3 v4
          rcases HLH.out with ⟨rfl, rfl, rfl⟩ | ⟨l, m, rfl, rfl, rfl, hlm, hcol, hst⟩
          · go_wp2
            exact ⟨⟨1, rfl, by omega, HF2.out, .inr ⟨0, 0, rfl, rfl, rfl, Nat.le_refl _, rfl, fun j z a h => absurd h (by omega)⟩⟩, by simp [intOf]; omega⟩
          · have hm : m < n := Nat.lt_of_succ_lt hlt
            have hmT : m < T.length := by rw [← HNN.out]; exact hm
            have s1 := (HF2.out.cell (World.block_lt_of_cell? _ _ (HCS.out m hmT).1) (by simp)).trans (HCS.out m hmT).1
            have s2 := (HF2.out.cell (World.block_lt_of_cell? _ _ (HCS.out m hmT).2) (by simp)).trans (HCS.out m hmT).2
            have hTm : T[m]? = some T[m] := List.getElem?_eq_getElem hmT
            have hTk : T[m + 1]? = some (x1, x2) := by rw [List.getElem?_eq_getElem hkT]; exact congrArg some HZ.out
            have hnx := HNB.out.next m T[m] (x1, x2) hTm hTk
            have hbm := HIN.out T[m] (List.getElem_mem _)
            obtain ⟨v1, v2, v3, v4⟩ := HFT.out
            generalize T[m] = zm at s1 s2 hTm hnx hbm
            obtain ⟨xm, ym⟩ := zm
            dsimp only at s1 s2 hnx hbm
            have wm := w64n hm hm3
            have wy := (w32y hbm.2 v2 v4).1
            have wx := (w32y hbm.1 v1 v3).1
            have gm : (0 : Int) ≤ (m : Int) := Int.natCast_nonneg m
            have gm2 : (m : Int) < (n : Int) := Int.ofNat_lt.2 hm
            have hk1 := cast_pred m
            have hk0 := cast_ne m
            have HM := Lib.hid (And.intro hTm (And.intro hTk (And.intro hlm (And.intro hcol hst))))
            clear v1 v2 v3 v4 hbm hTm hTk hlm hcol hst hmT hm
            rcases hnx with ⟨h1, h2⟩ | ⟨h1, h2⟩
            · subst h1 h2
              go_wp2_with fail
              go_quiet (fail)
              go_wp2_with fail
              go_quiet (fail)
              go_wp2
              obtain ⟨hTm, hTk, hlm, hcol, hst⟩ := HM.out
              exact ⟨⟨m + 2, by go_num, hlt, HF2.out.drewN _, .inr ⟨l, m + 1, rfl, rfl, rfl, Nat.le_succ_of_le hlm, hcol.trans (by rw [hTm, hTk]; rfl), hst⟩⟩, by simp [intOf]; omega⟩
            · subst h1
              have hxx : ¬ xm + 1 = xm := by omega
              have HH2 := Lib.hid h2
              clear h2
              go_wp2_with fail
              go_quiet (fail)
              go_upto_block 2 with fail
              go_cut [15] (fun t wx => ∃ (q : Nat) (yq : Int), t = .int .i64 q ∧ m + 1 ≤ q ∧ q < n ∧ T[q]? = some (xm + 1, yq) ∧ (∀ z, T[q + 1]? = some z → z.1 ≠ xm + 1) ∧ Fr [] wc wx)
              case first =>
                as_aux_lemma =>
                go_wp2_with fail
                go_loopw [15] (fun t wr => ∃ (q : Nat) (yq : Int), t = .int .i64 q ∧ m + 1 ≤ q ∧ q < n ∧ T[q]? = some (xm + 1, yq) ∧ Fr [] wc wr) (fun t _ => n - (intOf t).toNat)
                case atStart => exact ⟨m + 1, x2, rfl, Nat.le_refl _, hlt, HM.out.2.1, (Fr.refl _ _).drewN _⟩
                case round =>
                  obtain ⟨q, yq, rfl, hq1, hq2, hq, hfq⟩ := hrel
                  obtain ⟨wq, rfl⟩ : ∃ W : World, W = wr := ⟨_, rfl⟩
                  have HQ := Lib.hid (And.intro hq1 (And.intro hq hfq))
                  have u1 := (hfq.cell (World.block_lt_of_cell? _ _ t1) (by simp)).trans t1
                  clear hq hfq s1 s2 t1 t2
                  have wq1 := w64s hq2 hm3
                  have gq : (0 : Int) ≤ (q : Int) + 1 := by omega
                  by_cases hq3 : q + 1 < n
                  · have hqT : q + 1 < T.length := by rw [← HNN.out]; exact hq3
                    have r1 := ((HF2.out.trans HQ.out.2.2 (by simp)).cell (World.block_lt_of_cell? _ _ (HCS.out (q + 1) hqT).1) (by simp)).trans (HCS.out (q + 1) hqT).1
                    have hTq : T[q + 1]? = some T[q + 1] := List.getElem?_eq_getElem hqT
                    generalize T[q + 1] = zq at r1 hTq
                    obtain ⟨xq, yz⟩ := zq
                    dsimp only at r1
                    have gq2 : (q : Int) + 1 < (n : Int) := by omega
                    have HTQ := Lib.hid hTq
                    clear hTq hqT
                    by_cases hz : xq = xm + 1
                    · subst hz
                      go_wp2_with fail
                      go_quiet (fail)
                      go_wp2
                      exact ⟨⟨q + 1, yz, by go_num, by omega, hq3, HTQ.out, HQ.out.2.2.drewN _⟩, by simp [intOf]; omega⟩
                    · go_wp2_with fail
                      go_quiet (fail)
                      go_wp2
                      go_meet
                      case rel => exact ⟨q, yq, rfl, HQ.out.1, hq2, HQ.out.2.1, (fun z hz' => by rw [HTQ.out] at hz'; cases hz'; exact ‹¬ _›), HQ.out.2.2.drewN _⟩
                  · have gq2 : decide ((q : Int) + 1 < (n : Int)) = false := decide_eq_false (by omega)
                    have gq4 : T[q + 1]? = none := List.getElem?_eq_none (by rw [← HNN.out]; omega)
                    have GQ := Lib.hid gq4
                    clear gq4
                    go_wp2_with fail
                    go_quiet (fail)
                    go_wp2
                    go_meet
                    case rel => exact ⟨q, yq, rfl, HQ.out.1, hq2, HQ.out.2.1, (fun z hz' => by rw [GQ.out] at hz'; cases hz'), HQ.out.2.2.drewN _⟩
              case rest =>
                as_aux_lemma =>
                obtain ⟨q, yq, rfl, hq1, hq2, hTq, hend, hfq⟩ := hcut
                clear s1 s2 t1 t2
                obtain ⟨hTm, hTk, hlm, hcol, hst⟩ := HM.out
                obtain ⟨zl, hTl⟩ : ∃ z, T[l]? = some z := some_below hTm hlm
                obtain ⟨xl, yl⟩ := zl
                rw [hTl, hTm] at hcol
                have hxl : xl = xm := Option.some.inj hcol
                subst hxl
                have hw := HNB.out.wide l m q (xl, yl) (xl + 1, yq) (xl, ym) (xl + 1, x2) hlm hq1 hTl hTm hTk hTq rfl rfl rfl hend (fun j z hj hz => hst j z _ hj hz hTl)
                have hbl := HIN.out (xl, yl) (List.mem_of_getElem? hTl)
                obtain ⟨v1, v2, v3, v4⟩ := HFT.out
                have wyl := (w32y hbl.2 v2 v4).2
                have q1 := cells_at HCS.out (HF2.out.trans hfq (by simp)) hTq
                have l1 := cells_at HCS.out (HF2.out.trans hfq (by simp)) hTl
                have k1 := cells_at HCS.out (HF2.out.trans hfq (by simp)) hTk
                have m1 := cells_at HCS.out (HF2.out.trans hfq (by simp)) hTm
                obtain ⟨q1, q2⟩ := q1
                obtain ⟨l1, l2⟩ := l1
                obtain ⟨k1, k2⟩ := k1
                obtain ⟨m1, m2⟩ := m1
                have gl : (0 : Int) ≤ (l : Int) := Int.natCast_nonneg l
                have gl2 : (l : Int) < (n : Int) := Int.ofNat_lt.2 (Nat.lt_of_le_of_lt hlm (Nat.lt_of_succ_lt hlt))
                have gq : (0 : Int) ≤ (q : Int) := Int.natCast_nonneg q
                have gq2 : (q : Int) < (n : Int) := Int.ofNat_lt.2 hq2
                have hd1 : ¬ ym + 1 < x2 := Int.not_lt.2 HH2.out
                have hd2 : ¬ yq < yl - 1 := not_below hw
                have wmi := w64i (Nat.lt_of_succ_lt hlt) hm3
                have gk : (0 : Int) ≤ (m : Int) + 1 := Int.natCast_nonneg (m + 1)
                have gk2 : (m : Int) + 1 < (n : Int) := g2
                have gk3 : (m : Int) + 1 - 1 = (m : Int) := Int.add_sub_cancel _ _
                have HE := Lib.hid (And.intro hTm (And.intro hTk hfq))
                clear hw hbl v1 v2 v3 v4 hTm hTk hlm hcol hst hTl hTq hend hfq hq1 hxx
                go_wp2_with fail
                go_quiet (fail)
                go_wp2
                obtain ⟨hTm, hTk, hfq⟩ := HE.out
                exact ⟨⟨m + 2, by go_num, hlt, (HF2.out.trans hfq (by simp)).drewN _, .inr ⟨m + 1, m + 1, rfl, rfl, rfl, Nat.le_refl _, rfl, fun j z a hj hz ha => by cases hj; rw [hTm] at hz; cases hz; rw [hTk] at ha; cases ha; exact col_ne _⟩⟩, by simp [intOf]; omega⟩
      · obtain rfl : k = n := by omega
        go_wp2
        go_ret
        exact ⟨rfl, HC.out.1.trans HF.out (by simp)⟩
end Go.Proofs.Ythagbhiblncpkaa
