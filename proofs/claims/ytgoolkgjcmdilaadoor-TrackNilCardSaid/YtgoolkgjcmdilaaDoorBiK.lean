/-
  bit: a set gone through; any other step.
-/
import Derived.Test.YtgoolkgjcmdilaaDoorBiJ
namespace Go.Proofs.YtgoolkgjcmdilaaDoor
open Go.RowKit
set_option linter.unusedVariables false
set_option linter.unusedSimpArgs false
attribute [local go_sem] Oper.semAt_some

theorem stopI_zero (L : List Int) : stopI L 0 = L := by unfold stopI; rw [if_neg (by omega)]
theorem stopI_len (L : List Int) (n : Int) : (stopI L n).length ≤ L.length := by
  unfold stopI
  split
  · simp; omega
  · exact Nat.le_refl _
theorem numbers78_any (w : World) (k b2 : Nat) (v2 : Value) (B : List Bool) (ws : List Nat) (stop : Int) (h : BHeld k b2 v2 B ws w) :
    Calls Tryd.prog 38 #[.func (.func 78) #[] #[.pointer (some ⟨k, 0, none⟩)], .int .i64 stop] w fun e w' => ∃ v, e = .returned v ∧ RdInts w' v (stopI (onesI B B.length) stop) ∧ Fr [] w w' :=
  numbers_of w 78 _ (bS k b2 v2) (BHeld k b2 v2 B ws) (onesI B B.length) stop (Nat.le_trans (onesI_len B _) h.set.lim) (enters_of Tryd.func78 (by kernel_rfl) rfl) (fun m B0 => all2_tells m k B0 b2 v2 B ws) h (fun W W' h f => h.of f) h.lt
theorem all1_tells (m B0 : Nat) : Tells Fence.wide m Tryd.prog 76 #[] (fun (x : Int) => #[.int .i64 x]) [] (Kpb [] B0) (fun xs => xs = []) (fun pre => pre <+: []) ([] : List Int).length (fun _ => True) (fun _ => True) := by
  intro l J Jx W hW hJ hJx hY h0
  refine callsIn_of_wp Tryd.func76 rfl trivial ?_ rfl
  simp only [Tryd.ntmps76, List.size_toArray, List.length_cons, List.length_nil, Nat.reduceAdd, Nat.reduceSub, Array.replicate_succ, Array.replicate_zero, List.push_toArray, List.append_toArray, List.nil_append, List.cons_append]
  refine wpIn_wide.2 ?_
  have H0 := Lib.hid h0
  clear hJ hJx hY h0
  go_wp2
  go_end0
  exact ⟨⟨_, rfl⟩, trivial, .inl ⟨[], rfl, H0.out⟩⟩
theorem numbers76_any (w : World) (stop : Int) : Calls Tryd.prog 38 #[.func (.func 76) #[] #[], .int .i64 stop] w fun e w' => ∃ v, e = .returned v ∧ RdInts w' v (stopI [] stop) ∧ Fr [] w w' :=
  numbers_of w 76 #[] [] (fun _ => True) [] stop (by simp) (enters_of Tryd.func76 (by kernel_rfl) rfl) all1_tells trivial (fun _ _ _ _ => trivial) (by simp)
theorem RdInts.grow {w w' : World} {v : Value} {xs : List Int} (h : RdInts w v xs) (f : Fr [] w w') : RdInts w' v xs := by
  obtain ⟨p, cap, rfl, hc, h0⟩ := h
  refine ⟨p, cap, rfl, hc, ?_⟩
  rcases h0 with h0 | ⟨g, o, rfl, h0⟩
  · exact .inl h0
  · exact .inr ⟨g, o, rfl, fun k hk => (f.cell (World.block_lt_of_cell? w _ (h0 k hk)) (by simp)).trans (h0 k hk)⟩
theorem RdInts.take {w : World} {p : Option Addr} {n cap : Nat} {xs : List Int} (h : RdInts w (.slice p n cap) xs) {i : Nat} (hi : i ≤ n) : RdInts w (.slice p i cap) (xs.take i) := by
  obtain ⟨p', cap', e, hc, h0⟩ := h
  cases e
  have hl : (xs.take i).length = i := by rw [List.length_take]; omega
  refine ⟨p, cap, by rw [hl], by omega, ?_⟩
  rw [hl]
  rcases h0 with h0 | ⟨g, o, rfl, h0⟩
  · exact .inl (by omega)
  · refine .inr ⟨g, o, rfl, fun k hk => ?_⟩
    have := h0 k (by omega)
    rw [List.getD_eq_getElem?_getD] at this ⊢
    rw [List.getElem?_take, if_pos hk]
    exact this
set_option maxRecDepth 100000 in
set_option maxHeartbeats 4000000 in
theorem bit_all (w : World) (b c m n : Nat) (v u v2 u2 : Value) (B C : List Bool) (onn wi i : Int) (h1 : PB b m v u B w) (h2 : PB c n v2 u2 C w) (hT : DeB w) :
    Calls Tryd.prog 30 #[.pointer (some ⟨b, 0, none⟩), .pointer (some ⟨c, 0, none⟩), .pointer (some ⟨m, 0, none⟩), .pointer (some ⟨n, 0, none⟩), .agg #[.int .i64 9, .int .i64 onn, .int .i64 wi, .int .i64 i]] w (BitPost w b m v u B) := by
  have hb1 := Blk.new w #[.int .i64 9, .int .i64 onn, .int .i64 wi, .int .i64 i] 86
  have f01 : Fr [] w (w.alloc (.cells #[.int .i64 9, .int .i64 onn, .int .i64 wi, .int .i64 i] 86)) := (Fr.refl [] w).alloc _
  have d0 := hb1.at 0 (v := .int .i64 9) rfl
  have d3 := hb1.at 3 (v := .int .i64 i) rfl
  have HH := Lib.hid (And.intro h1 (And.intro h2 (And.intro f01 (And.intro hb1 hT))))
  clear f01 h1 h2 hb1 hT
  go_enter Tryd.func30, Tryd.ntmps30
  go_wp2_with fail
  obtain ⟨h1, h2, f01, hb1, hT⟩ := HH.out
  clear HH d0 d3
  obtain ⟨w1, hw1⟩ : ∃ w1, w.alloc (.cells #[.int .i64 9, .int .i64 onn, .int .i64 wi, .int .i64 i] 86) = w1 := ⟨_, rfl⟩
  obtain ⟨bx, hbx⟩ : ∃ bx, bx = w.heap.size := ⟨_, rfl⟩
  rw [← hbx] at hb1 ⊢
  rw [hw1] at hb1 f01 ⊢
  have hP := h1.grow f01
  have hQ := h2.grow f01
  have HP := Lib.hid (And.intro hP (And.intro hQ (And.intro f01 (And.intro hb1 (deB_fr2 hT f01)))))
  clear hP hQ f01 h1 h2 hw1 hbx hT
  obtain ⟨ws, hws⟩ := HP.out.1.set
  (with_reducible refine (allB_any w1 b v B ws hws).mono ?_)
  rintro e w2 ⟨k, b2, v2', rfl, hk, hb2, hkg, hbg, hg2, f2⟩
  have hp2 := HP.out.1.grow f2
  have hheld : BHeld k b2 v2' B ws w2 := ⟨hk, hb2, deB_fr2 HP.out.2.2.2.2 f2⟩
  have hbx2 := f2.blk HP.out.2.2.2.1 (by simp)
  have HA := Lib.hid (And.intro hp2 (And.intro hheld (And.intro hbx2 f2)))
  clear hws hk hb2 hkg hbg hg2 f2 hp2 hheld hbx2 hb1
  go_wp2_with fail
  (with_reducible refine (rall_any w2 m u B HA.out.1.ref).mono ?_)
  rintro e w3 ⟨vp, rfl, ho, hf, f3⟩
  obtain ⟨pp, pc, rfl⟩ := own_form ho
  have hbx3 := f3.blk HA.out.2.2.1 (by simp)
  have y3 := hbx3.at 3 (v := .int .i64 i) rfl
  have hll := onesI_len B B.length
  have hrd := RdInts.of_own ho
  obtain ⟨nl, hnl⟩ : ∃ nl, nl = (onesI B B.length).length := ⟨_, rfl⟩
  rw [← hnl] at hrd hll ⊢
  obtain ⟨L, hL⟩ : ∃ L, L = onesI B B.length := ⟨_, rfl⟩
  have hnL : nl = L.length := by rw [hL]; exact hnl
  rw [← hL] at hrd
  have HB := Lib.hid (And.intro hrd (And.intro f3 (And.intro hbx3 (And.intro (HA.out.1.grow f3) (And.intro (HA.out.2.1.fr f3 (by simp)) (And.intro hL hnL))))))
  have hlim := HP.out.1.ref.lim
  have HLIM := Lib.hid (show L.length ≤ 65536 by omega)
  clear ho hf f3 hbx3 hrd hL hnl hll hlim
  by_cases hi0 : 0 < i
  · by_cases hi1 : i < (nl : Int)
    · obtain ⟨im, rfl⟩ : ∃ im : Nat, i = im := ⟨i.toNat, by omega⟩
      have hst : stopI L (im : Int) = L.take im := by unfold stopI; rw [if_pos ⟨hi0, by omega⟩, Int.toNat_natCast]
      have hcap : nl ≤ pc := by
        obtain ⟨p', c', e, hc, _⟩ := HB.out.1
        cases e
        omega
      have g0 : (0 : Int) ≤ (im : Int) := by omega
      have g1 : (im : Int) ≤ (pc : Int) := by omega
      have HT := Lib.hid (show RdInts w3 (.slice pp im pc) (stopI L (im : Int)) by rw [hst]; exact HB.out.1.take (by omega))
      have hi2 : ¬ (im : Int) ≤ 0 := by omega
      clear hst hcap hnL
      go_wp2_with fail
      (with_reducible refine (numbers78_any w3 k b2 v2' B ws (im : Int) HB.out.2.2.2.2.1).mono ?_)
      rintro e w4 ⟨v4, rfl, h4, f4⟩
      rw [← HB.out.2.2.2.2.2.1] at h4
      have HM := Lib.hid (And.intro h4 f4)
      clear h4 f4
      go_wp2_with fail
      (with_reducible refine (sameInts_any w4 v4 (.slice pp im pc) (stopI L (im : Int)) HM.out.1 ((HT.out).grow HM.out.2) (Nat.le_trans (stopI_len _ _) HLIM.out)).mono ?_)
      rintro e w5 ⟨rfl, f5⟩
      have HN := Lib.hid f5
      clear f5
      go_wp2_with fail
      (with_reducible refine (numbers78_any w5 k b2 v2' B ws 0 ((HB.out.2.2.2.2.1.fr HM.out.2 (by simp)).fr HN.out (by simp))).mono ?_)
      rintro e w6 ⟨v6, rfl, h6, f6⟩
      rw [stopI_zero, ← HB.out.2.2.2.2.2.1] at h6
      have HC := Lib.hid (And.intro h6 f6)
      clear h6 f6
      go_wp2_with fail
      (with_reducible refine (rall_any w6 m u B (((HB.out.2.2.2.1.grow HM.out.2).grow HN.out).grow HC.out.2).ref).mono ?_)
      rintro e w7 ⟨v7, rfl, ho7, -, f7⟩
      have h7 := RdInts.of_own ho7
      rw [← HB.out.2.2.2.2.2.1] at h7
      have HD := Lib.hid (And.intro h7 f7)
      clear ho7 h7 f7
      go_wp2_with fail
      (with_reducible refine (sameInts_any w7 v6 v7 L (HC.out.1.grow HD.out.2) HD.out.1 HLIM.out).mono ?_)
      rintro e w8 ⟨rfl, f8⟩
      have HE := Lib.hid f8
      clear f8
      go_wp2_with fail
      refine bodyPost_ret (v := .bool true) (by simp [results, Tryd.results30, go_sem]) rfl ⟨rfl, ((((HB.out.2.2.2.1.grow HM.out.2).grow HN.out).grow HC.out.2).grow HD.out.2).grow HE.out, ((((((HP.out.2.2.1.trans HA.out.2.2.2 (by simp)).trans HB.out.2.1 (by simp)).trans HM.out.2 (by simp)).trans HN.out (by simp)).trans HC.out.2 (by simp)).trans HD.out.2 (by simp)).trans HE.out (by simp) |>.mono (by simp)⟩
    · have HT := Lib.hid (show RdInts w3 (.slice pp nl pc) (stopI L i) by unfold stopI; rw [if_neg (by omega)]; exact HB.out.1)
      have hi2 : ¬ i ≤ 0 := by omega
      clear hnL
      go_wp2_with fail
      (with_reducible refine (numbers78_any w3 k b2 v2' B ws i HB.out.2.2.2.2.1).mono ?_)
      rintro e w4 ⟨v4, rfl, h4, f4⟩
      rw [← HB.out.2.2.2.2.2.1] at h4
      have HM := Lib.hid (And.intro h4 f4)
      clear h4 f4
      go_wp2_with fail
      (with_reducible refine (sameInts_any w4 v4 (.slice pp nl pc) (stopI L i) HM.out.1 ((HT.out).grow HM.out.2) (Nat.le_trans (stopI_len _ _) HLIM.out)).mono ?_)
      rintro e w5 ⟨rfl, f5⟩
      have HN := Lib.hid f5
      clear f5
      go_wp2_with fail
      (with_reducible refine (numbers78_any w5 k b2 v2' B ws 0 ((HB.out.2.2.2.2.1.fr HM.out.2 (by simp)).fr HN.out (by simp))).mono ?_)
      rintro e w6 ⟨v6, rfl, h6, f6⟩
      rw [stopI_zero, ← HB.out.2.2.2.2.2.1] at h6
      have HC := Lib.hid (And.intro h6 f6)
      clear h6 f6
      go_wp2_with fail
      (with_reducible refine (rall_any w6 m u B (((HB.out.2.2.2.1.grow HM.out.2).grow HN.out).grow HC.out.2).ref).mono ?_)
      rintro e w7 ⟨v7, rfl, ho7, -, f7⟩
      have h7 := RdInts.of_own ho7
      rw [← HB.out.2.2.2.2.2.1] at h7
      have HD := Lib.hid (And.intro h7 f7)
      clear ho7 h7 f7
      go_wp2_with fail
      (with_reducible refine (sameInts_any w7 v6 v7 L (HC.out.1.grow HD.out.2) HD.out.1 HLIM.out).mono ?_)
      rintro e w8 ⟨rfl, f8⟩
      have HE := Lib.hid f8
      clear f8
      go_wp2_with fail
      refine bodyPost_ret (v := .bool true) (by simp [results, Tryd.results30, go_sem]) rfl ⟨rfl, ((((HB.out.2.2.2.1.grow HM.out.2).grow HN.out).grow HC.out.2).grow HD.out.2).grow HE.out, ((((((HP.out.2.2.1.trans HA.out.2.2.2 (by simp)).trans HB.out.2.1 (by simp)).trans HM.out.2 (by simp)).trans HN.out (by simp)).trans HC.out.2 (by simp)).trans HD.out.2 (by simp)).trans HE.out (by simp) |>.mono (by simp)⟩
  · have hi2 : i ≤ 0 := by omega
    clear hnL
    go_wp2_with fail
    (with_reducible refine (numbers78_any w3 k b2 v2' B ws 0 (HB.out.2.2.2.2.1)).mono ?_)
    rintro e w6 ⟨v6, rfl, h6, f6⟩
    rw [stopI_zero, ← HB.out.2.2.2.2.2.1] at h6
    have HC := Lib.hid (And.intro h6 f6)
    clear h6 f6
    go_wp2_with fail
    (with_reducible refine (rall_any w6 m u B ((HB.out.2.2.2.1).grow HC.out.2).ref).mono ?_)
    rintro e w7 ⟨v7, rfl, ho7, -, f7⟩
    have h7 := RdInts.of_own ho7
    rw [← HB.out.2.2.2.2.2.1] at h7
    have HD := Lib.hid (And.intro h7 f7)
    clear ho7 h7 f7
    go_wp2_with fail
    (with_reducible refine (sameInts_any w7 v6 v7 L (HC.out.1.grow HD.out.2) HD.out.1 HLIM.out).mono ?_)
    rintro e w8 ⟨rfl, f8⟩
    have HE := Lib.hid f8
    clear f8
    go_wp2_with fail
    refine bodyPost_ret (v := .bool true) (by simp [results, Tryd.results30, go_sem]) rfl ⟨rfl, (((HB.out.2.2.2.1).grow HC.out.2).grow HD.out.2).grow HE.out, (((((HP.out.2.2.1.trans HA.out.2.2.2 (by simp)).trans HB.out.2.1 (by simp))).trans HC.out.2 (by simp)).trans HD.out.2 (by simp)).trans HE.out (by simp) |>.mono (by simp)⟩
set_option maxRecDepth 100000 in
theorem bit_other (w : World) (b c m n : Nat) (v u v2 u2 : Value) (B C : List Bool) (d onn wi i : Int) (h1 : PB b m v u B w) (h0 : ∀ k : Nat, k < 10 → d ≠ (k : Int)) :
    Calls Tryd.prog 30 #[.pointer (some ⟨b, 0, none⟩), .pointer (some ⟨c, 0, none⟩), .pointer (some ⟨m, 0, none⟩), .pointer (some ⟨n, 0, none⟩), .agg #[.int .i64 d, .int .i64 onn, .int .i64 wi, .int .i64 i]] w (BitPost w b m v u B) := by
  have hb1 := Blk.new w #[.int .i64 d, .int .i64 onn, .int .i64 wi, .int .i64 i] 86
  have d0 := hb1.at 0 (v := .int .i64 d) rfl
  have f01 : Fr [] w (w.alloc (.cells #[.int .i64 d, .int .i64 onn, .int .i64 wi, .int .i64 i] 86)) := (Fr.refl [] w).alloc _
  have HH := Lib.hid (And.intro (h1.grow f01) f01)
  have e0 : ¬ d = 0 := h0 0 (by decide)
  have e1 : ¬ d = 1 := h0 1 (by decide)
  have e2 : ¬ d = 2 := h0 2 (by decide)
  have e3 : ¬ d = 3 := h0 3 (by decide)
  have e4 : ¬ d = 4 := h0 4 (by decide)
  have e5 : ¬ d = 5 := h0 5 (by decide)
  have e6 : ¬ d = 6 := h0 6 (by decide)
  have e7 : ¬ d = 7 := h0 7 (by decide)
  have e8 : ¬ d = 8 := h0 8 (by decide)
  have e9 : ¬ d = 9 := h0 9 (by decide)
  clear h1 hb1 f01 h0
  go_enter Tryd.func30, Tryd.ntmps30
  go_wp2
  all_goals refine bodyPost_ret (v := .bool true) (by simp [results, Tryd.results30, go_sem]) rfl ⟨rfl, HH.out.1, HH.out.2.mono (by simp)⟩
end Go.Proofs.YtgoolkgjcmdilaaDoor
