/-
  Cover of the document: the first cells of a box.
-/
import Derived.Test.YthagbhiblncpkaaCellU
import Derived.Test.YthagbhiblncpkaaCellX
import Derived.Test.YthagbhiblncpkaaCellL
namespace Go.Proofs.Ythagbhiblncpkaa
open Go.RowKit Go.Shelf
set_option linter.unusedVariables false
attribute [local go_sem] Oper.semAt_some

theorem covRow_take (fx tx y : Int) (i : Nat) (h : i < (tx + 1 - fx).toNat) : (covRow fx tx y).take (i + 1) = (covRow fx tx y).take i ++ [(fx + (i : Int), y)] := by
  unfold covRow
  rw [← List.map_take, ← List.map_take, upTo_take _ _ _ h, List.map_append]
  rfl
theorem covRows_up (fx tx fy ty : Int) : covRows fx tx (upTo fy ty) = rowsUp (fun j => covRow fx tx (fy + (j : Int))) (ty + 1 - fy).toNat := by
  unfold covRows rowsUp upTo
  rw [List.flatMap_map]

theorem refCover_no (w : World) (a b c d s : Int) (hn : (fits s && boxOk a b c d) = false) : Calls Try.prog 23 #[bx a b c d, .int .i64 s, .int .i64 401] w (ListPost w []) := by
  have hnil : ∀ w' : World, w'.ownsRow 0 33 2 (.slice none 0 0) ([] : List (Int × Int)).length (flat []) := fun w' => World.ownsRow_nil _ _ _ _
  have h0 : Fr [] w (w.alloc (.cells #[.int .i32 a, .int .i32 b, .int .i32 c, .int .i32 d] 39)) := (Fr.refl [] w).alloc _
  have HF := Lib.hid h0
  clear h0
  cases h1 : fits s with
  | false =>
    have H1 := Lib.hid h1
    clear h1 hn
    go_enter Try.func23, Try.ntmps23
    go_wp2_with fail
    (with_reducible refine (fits_any _ _).mono ?_)
    rintro e w1 ⟨rfl, rfl⟩
    rw [H1.out]
    go_wp2
    go_ret
    exact ⟨_, rfl, hnil _, by simp [Value.ownBlock], HF.out⟩
  | true =>
    have h2 : boxOk a b c d = false := by simpa [h1] using hn
    have H1 := Lib.hid h1
    have H2 := Lib.hid h2
    clear h1 h2 hn
    go_enter Try.func23, Try.ntmps23
    go_wp2_with fail
    (with_reducible refine (fits_any _ _).mono ?_)
    rintro e w1 ⟨rfl, rfl⟩
    rw [H1.out]
    go_wp2_with fail
    (with_reducible refine (right_any _ _ _ _ _).mono ?_)
    rintro e w1 ⟨rfl, fr1⟩
    rw [H2.out]
    have HF2 := Lib.hid (HF.out.trans fr1 (by simp))
    clear fr1
    go_wp2
    go_ret
    exact ⟨_, rfl, hnil _, by simp [Value.ownBlock], HF2.out⟩

set_option maxRecDepth 100000 in
set_option maxHeartbeats 2000000 in
theorem refCover_ok (w : World) (a b c d s : Int) (h1 : fits s = true) (h2 : boxOk a b c d = true) : Calls Try.prog 23 #[bx a b c d, .int .i64 s, .int .i64 401] w (ListPost w ((covSeq a b c d s).take 401)) := by
  have H1 := Lib.hid h1
  have H2 := Lib.hid h2
  have HSEQ := Lib.hid ((show covSeq a b c d s = covRows (a / s) (c / s) (upTo (b / s) (d / s)) from if_pos ⟨h1, h2⟩).trans (covRows_up _ _ _ _))
  obtain ⟨s1, s2⟩ := fits_iff.1 h1
  obtain ⟨i1, i2, g1, g2⟩ := boxOk_iff.1 h2
  obtain ⟨ax1, ax2, ay1, ay2⟩ : -1073741823 ≤ a ∧ a ≤ 1073741823 ∧ -1073741823 ≤ b ∧ b ≤ 1073741823 := of_decide_eq_true i1
  obtain ⟨cx1, cx2, cy1, cy2⟩ : -1073741823 ≤ c ∧ c ≤ 1073741823 ∧ -1073741823 ≤ d ∧ d ≤ 1073741823 := of_decide_eq_true i2
  have e1 : ofV a b s = Value.tuple #[.agg #[.int .i32 (a / s), .int .i32 (b / s)], .int .i64 0] := by simp [ofV, h1]
  have hO1 := fun w => refOf_any w a b s (by unfold I32; omega) (by unfold I32; omega)
  simp only [e1] at hO1
  have HO1 := Lib.hid hO1
  clear hO1 e1
  have e2 : ofV c d s = Value.tuple #[.agg #[.int .i32 (c / s), .int .i32 (d / s)], .int .i64 0] := by simp [ofV, h1]
  have hO2 := fun w => refOf_any w c d s (by unfold I32; omega) (by unfold I32; omega)
  simp only [e2] at hO2
  have HO2 := Lib.hid hO2
  clear hO2 e2
  have HQ := Lib.hid (And.intro (ediv_bd a s 1073741823 (by omega) (by omega) (by omega) (by omega)) (And.intro (ediv_bd b s 1073741823 (by omega) (by omega) (by omega) (by omega)) (And.intro (ediv_bd c s 1073741823 (by omega) (by omega) (by omega) (by omega)) (And.intro (ediv_bd d s 1073741823 (by omega) (by omega) (by omega) (by omega)) (And.intro (Int.ediv_le_ediv (a := a) (b := c) (c := s) (by omega) g1) (Int.ediv_le_ediv (a := b) (b := d) (c := s) (by omega) g2))))))
  have HF := Lib.hid ((Fr.refl [] w).alloc (.cells #[.int .i32 a, .int .i32 b, .int .i32 c, .int .i32 d] 39))
  have BH := Lib.hid (Blk.new w #[.int .i32 a, .int .i32 b, .int .i32 c, .int .i32 d] 39)
  clear h1 h2 i1 i2 g1 g2 ax1 ax2 ay1 ay2 cx1 cx2 cy1 cy2 s1 s2
  unfold pt at HO1 HO2
  go_enter Try.func23, Try.ntmps23
  go_wp2_with fail
  (with_reducible refine (fits_any _ _).mono ?_)
  rintro e w1 ⟨rfl, rfl⟩
  rw [H1.out]
  go_wp2_with fail
  (with_reducible refine (right_any _ _ _ _ _).mono ?_)
  rintro e w1 ⟨rfl, fr1⟩
  rw [H2.out]
  have HF2 := Lib.hid (HF.out.trans fr1 (by simp))
  have B2 := fr1.blk BH.out (by simp)
  have c0 := B2.at 0 (v := .int .i32 a) rfl
  have c1 := B2.at 1 (v := .int .i32 b) rfl
  have HB2 := Lib.hid B2
  clear fr1 B2
  go_wp2_with fail
  (with_reducible refine (HO1.out _).mono ?_)
  rintro e w2 ⟨rfl, fr2⟩
  have HF3 := Lib.hid (HF2.out.trans fr2 (by simp))
  have HB3 := Lib.hid (fr2.blk HB2.out (by simp))
  have c2 := (HB3.out.alloc (.cells #[.int .i32 (a / s), .int .i32 (b / s)] 33)).at 2 (v := .int .i32 c) rfl
  have c3 := (HB3.out.alloc (.cells #[.int .i32 (a / s), .int .i32 (b / s)] 33)).at 3 (v := .int .i32 d) rfl
  clear fr2 c0 c1
  go_wp2_with fail
  (with_reducible refine (HO2.out _).mono ?_)
  rintro e w3 ⟨rfl, fr3⟩
  have B8 := (fr3.blk (Blk.new w2 #[.int .i32 (a / s), .int .i32 (b / s)] 33) (by simp)).alloc (.cells #[.int .i32 (c / s), .int .i32 (d / s)] 33)
  have B10 := Blk.new w3 #[.int .i32 (c / s), .int .i32 (d / s)] 33
  have HF4 := Lib.hid ((((HF3.out.alloc (.cells #[.int .i32 (a / s), .int .i32 (b / s)] 33))).trans fr3 (by simp)).alloc (.cells #[.int .i32 (c / s), .int .i32 (d / s)] 33))
  have k1 := B8.at 1 (v := .int .i32 (b / s)) rfl
  have HBB := Lib.hid (And.intro B8 B10)
  clear fr3 c2 c3 B8 B10
  obtain ⟨z8, hz8⟩ : ∃ z, z = w2.heap.size := ⟨_, rfl⟩
  obtain ⟨z10, hz10⟩ : ∃ z, z = w3.heap.size := ⟨_, rfl⟩
  go_wp2_with fail
  simp only [← hz8, ← hz10] at *
  clear hz8 hz10
  generalize w3.alloc (.cells #[.int .i32 (c / s), .int .i32 (d / s)] 33) = w5 at *
  have hle := HF4.out.size
  generalize a / s = fx at *
  generalize b / s = fy at *
  generalize c / s = tx at *
  generalize d / s = ty at *
  obtain ⟨q1, q2, q3, q4, q5, q6⟩ := HQ.out
  obtain ⟨N, hN⟩ : ∃ N, N = (ty + 1 - fy).toNat := ⟨_, rfl⟩
  have hN1 : (N : Int) = ty + 1 - fy := by omega
  obtain ⟨n, hn⟩ : ∃ n, n = (tx + 1 - fx).toNat := ⟨_, rfl⟩
  have hn1 : (n : Int) = tx + 1 - fx := by omega
  have HNN := Lib.hid (And.intro hN hn)
  have hseq := HSEQ.out
  rw [← hN] at hseq
  have HSQ := Lib.hid hseq
  clear HSEQ hseq hN hn k1
  go_loopw [7, 12] (fun o y wr => ∃ j : Nat, y = .int .i32 (fy + (j : Int)) ∧ j ≤ N ∧ (rowsUp (fun j => covRow fx tx (fy + (j : Int))) j).length ≤ 401 ∧ Lst w5 wr (rowsUp (fun j => covRow fx tx (fy + (j : Int))) j) o) (fun _ y _ => (ty + 1 - intOf y).toNat)
  case atStart => exact ⟨0, by go_num, Nat.zero_le _, by simp [rowsUp], World.ownsRow_nil _ _ _ _, by simp [Value.ownBlock], Fr.refl _ _⟩
  case round =>
    obtain ⟨j, rfl, hj, hlen, hls⟩ := hrel
    obtain ⟨wo, rfl⟩ : ∃ wo : World, wo = wr := ⟨_, rfl⟩
    have k1 := (hls.fr.blk HBB.out.1 (by simp)).at 0 (v := .int .i32 fx) rfl
    have k2 := (hls.fr.blk HBB.out.2 (by simp)).at 1 (v := .int .i32 ty) rfl
    by_cases hlt : j < N
    · have hle2 : fy + (j : Int) ≤ ty := by omega
      have HK := Lib.hid (And.intro hlen hls)
      clear hlen hls
      go_wp2_with fail
      go_loopw [7, 13] (fun o x wr => ∃ i : Nat, x = .int .i32 (fx + (i : Int)) ∧ i ≤ n ∧ (rowsUp (fun j => covRow fx tx (fy + (j : Int))) j ++ (covRow fx tx (fy + (j : Int))).take i).length ≤ 401 ∧ Lst w5 wr (rowsUp (fun j => covRow fx tx (fy + (j : Int))) j ++ (covRow fx tx (fy + (j : Int))).take i) o) (fun _ x _ => (tx + 1 - intOf x).toNat)
      case atStart => exact ⟨0, by go_num, Nat.zero_le _, by simpa using HK.out.1, by simpa using HK.out.2⟩
      case round =>
        obtain ⟨i, rfl, hi, hlen, hls⟩ := hrel
        obtain ⟨wi, rfl⟩ : ∃ wi : World, wi = wr := ⟨_, rfl⟩
        have k3 := (hls.fr.blk HBB.out.2 (by simp)).at 0 (v := .int .i32 tx) rfl
        have hcap := (show ∃ p c, u7 = .slice p (rowsUp (fun j => covRow fx tx (fy + (j : Int))) j ++ (covRow fx tx (fy + (j : Int))).take i).length c by
          rcases hls.own.2 with ⟨h1, h2⟩ | ⟨g, cap, cur, h1, _⟩
          · exact ⟨none, 0, by rw [h1, h2]⟩
          · exact ⟨_, cap, h1⟩)
        obtain ⟨pv, cv, hu9⟩ := hcap
        by_cases hlt2 : i < n
        · have hle3 : fx + (i : Int) ≤ tx := by omega
          have hsn : rowsUp (fun j => covRow fx tx (fy + (j : Int))) j ++ (covRow fx tx (fy + (j : Int))).take i ++ [(fx + (i : Int), fy + (j : Int))] = rowsUp (fun j => covRow fx tx (fy + (j : Int))) j ++ (covRow fx tx (fy + (j : Int))).take (i + 1) := by
            rw [covRow_take _ _ _ _ (by rw [← HNN.out.2]; exact hlt2), List.append_assoc]
          have hpf : rowsUp (fun j => covRow fx tx (fy + (j : Int))) j ++ (covRow fx tx (fy + (j : Int))).take i <+: covSeq a b c d s := by rw [HSQ.out]; exact rowsUp_take _ hlt _
          have HS := Lib.hid hsn
          have HPF := Lib.hid hpf
          have HW := Lib.hid hls
          have hown := hls.own
          clear hsn hpf hls
          generalize rowsUp (fun j => covRow fx tx (fy + (j : Int))) j ++ (covRow fx tx (fy + (j : Int))).take i = A at *
          have HLN := Lib.hid hlen
          rcases Nat.lt_or_ge A.length 401 with h4 | h4
          · have h4' : decide (401 ≤ (A.length : Int)) = false := by simp; omega
            subst hu9
            go_wp2_with (at_builtin; go_must (refine wpList_app _ rfl _ _ 27 rfl 33 (.agg #[.int .i32 0, .int .i32 0]) 2 8 Try.underlying27 info33 rfl (by decide) _ A.length (flat A) rfl (hown.alloc _) ⟨wi.heap.size, 0, none⟩ 1 1 [.int .i32 (fx + (i : Int)), .int .i32 (fy + (j : Int))] rfl rfl (new_list _ _ _ _ rfl) (by simp [Value.oneCell']) (by unfold maxLen; omega) (by omega) ?_); intro v1 w8 happ; have HA := Lib.hid happ; clear happ)
            go_roundw
            case rel =>
              obtain ⟨g1, g2⟩ := HW.out.app HA.out
              exact ⟨i + 1, by go_num, by omega, by rw [← HS.out]; simp; omega, by rw [← HS.out]; exact g1⟩
            case measure => simp [intOf]; omega
          · subst hu9
            go_wp2
            go_ret
            refine ⟨_, rfl, ?_⟩
            rw [take_of_prefix HPF.out (by have := HLN.out; omega)]
            exact ⟨HW.out.own, fun g hg => Nat.le_trans hle (HW.out.at_ g hg), HF4.out.trans HW.out.fr (by simp)⟩
        · obtain rfl : i = n := by omega
          have e : rowsUp (fun j => covRow fx tx (fy + (j : Int))) j ++ (covRow fx tx (fy + (j : Int))).take i = rowsUp (fun j => covRow fx tx (fy + (j : Int))) (j + 1) := by
            have : (covRow fx tx (fy + (j : Int))).take i = covRow fx tx (fy + (j : Int)) := List.take_of_length_le (by rw [covRow_len, ← HNN.out.2]; exact Nat.le_refl _)
            rw [this, rowsUp_succ]
          rw [e] at hlen hls
          have HW := Lib.hid (And.intro hlen hls)
          clear e hlen hls hu9
          have hgt : tx < fx + (i : Int) := by omega
          go_wp2
          go_roundw
          case rel => exact ⟨j + 1, by go_num, by omega, HW.out⟩
          case measure => simp [intOf]; omega
    · obtain rfl : j = N := by omega
      have hgt : ty < fy + (j : Int) := by omega
      rw [← HSQ.out] at hls hlen
      have HW := Lib.hid (And.intro hls hlen)
      clear hls hlen
      go_wp2
      go_ret
      refine ⟨_, rfl, ?_⟩
      rw [List.take_of_length_le HW.out.2]
      exact ⟨HW.out.1.own, fun g hg => Nat.le_trans hle (HW.out.1.at_ g hg), HF4.out.trans HW.out.1.fr (by simp)⟩

theorem refCover_any (w : World) (a b c d s : Int) : Calls Try.prog 23 #[bx a b c d, .int .i64 s, .int .i64 401] w (ListPost w ((covSeq a b c d s).take 401)) := by
  cases hok : (fits s && boxOk a b c d) with
  | false =>
    have e : covSeq a b c d s = [] := by unfold covSeq; rw [if_neg (by rintro ⟨h1, h2⟩; simp [h1, h2] at hok)]
    rw [e]
    exact refCover_no w a b c d s hok
  | true =>
    rw [Bool.and_eq_true] at hok
    exact refCover_ok w a b c d s hok.1 hok.2
end Go.Proofs.Ythagbhiblncpkaa
