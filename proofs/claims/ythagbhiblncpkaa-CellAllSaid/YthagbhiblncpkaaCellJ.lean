/-
  First of the document: the first cells of a segment.
-/
import Derived.Test.YthagbhiblncpkaaCellI
namespace Go.Proofs.Ythagbhiblncpkaa
open Go.RowKit Go.Shelf
set_option linter.unusedVariables false

/-- What First answers. -/
def ListPost (w : World) (L : List (Int × Int)) (e : Ending) (w' : World) : Prop :=
  ∃ v, e = .returned v ∧ w'.ownsRow 0 33 2 v L.length (flat L) ∧ (∀ g, v.ownBlock = some g → w.heap.size ≤ g) ∧ Fr [] w w'

theorem take_of_prefix {α : Type} {A L : List α} {n : Nat} (h : A <+: L) (hn : A.length = n) : L.take n = A := by
  rw [← hn]; exact (List.prefix_iff_eq_take.1 h).symm

/-- A list that is gathered, and its slice. -/
structure Lst (w W : World) (A : List (Int × Int)) (v : Value) : Prop where
  own : W.ownsRow 0 33 2 v A.length (flat A)
  at_ : ∀ g, v.ownBlock = some g → w.heap.size ≤ g
  fr : Fr [] w W
theorem Lst.frn {w W W' : World} {A : List (Int × Int)} {v : Value} (h : Lst w W A v) (f : Fr [] W W') : Lst w W' A v :=
  ⟨own_fr h.own f (by simp), h.at_, h.fr.trans f (by simp)⟩
theorem Lst.app {w W w1 : World} {A : List (Int × Int)} {v v1 : Value} {x y : Int} (h : Lst w W A v) (hp : Appended (W.alloc (.cells #[.int .i32 x, .int .i32 y] 33)) 33 2 v (A.length + 1) (flat A ++ [.int .i32 x, .int .i32 y]) v1 w1) :
    Lst w w1 (A ++ [(x, y)]) v1 ∧ ∀ b c e, e ≠ 33 → Blk W b c e → Blk w1 b c e := by
  refine ⟨⟨?_, fun g hg => ?_, ?_⟩, fun b c e he hb => hp.fr.blk (hb.alloc _) (own_notin h.own hb (Ne.symm he))⟩
  · rw [flat_append, List.length_append]; exact hp.own
  · rcases hp.place with h1 | h1
    · exact h.at_ g (by rw [← h1]; exact hg)
    · rw [h1] at hg; cases hg; have := h.fr.size; simp; omega
  · exact (h.fr.alloc _).trans hp.fr (by intro x hx; exact .inr (h.at_ x (by simpa using hx)))

set_option maxRecDepth 100000 in
set_option maxHeartbeats 2000000 in
theorem refFirst_in (w : World) (px py qx qy s : Int) (hf : fits s = true) (hp : inB px py = true) (hq : inB qx qy = true) (hpq : px ≤ qx) :
    Calls Try.prog 8 #[pt px py, pt qx qy, .int .i64 s, .int .i64 401] w (ListPost w ((rightCells px py qx qy s).take 401)) := by
  obtain ⟨s1, s2⟩ := fits_iff.1 hf
  obtain ⟨bx1, bx2, by1, by2⟩ := inB_iff.1 hp
  obtain ⟨cx1, cx2, cy1, cy2⟩ := inB_iff.1 hq
  unfold pt
  have HF := Lib.hid hf
  have HP := Lib.hid hp
  have HQ := Lib.hid hq
  clear hf hp hq
  go_enter Try.func8, Try.ntmps8
  go_wp2_with fail
  (with_reducible refine (fits_any _ _).mono ?_)
  rintro e w1 ⟨rfl, hw1⟩
  rw [HF.out]
  obtain ⟨bp, hbp⟩ : ∃ b, b = w.heap.size := ⟨_, rfl⟩
  obtain ⟨bq, hbq⟩ : ∃ b, b = w.heap.size + 1 := ⟨_, rfl⟩
  rw [← hbq, ← hbp]
  have hp1 : Blk w1 bp #[.int .i32 px, .int .i32 py] 23 := by rw [← hw1, hbp]; exact (Blk.new _ _ _).alloc _
  have hq1 : Blk w1 bq #[.int .i32 qx, .int .i32 qy] 23 := by rw [← hw1, hbq]; exact Blk.new_at (by simp) _ _
  have fr1 : Fr [] w w1 := by rw [← hw1]; exact ((Fr.refl _ _).alloc _).alloc _
  have hne : bp ≠ bq := by omega
  have hge : w.heap.size ≤ bp ∧ w.heap.size ≤ bq := by omega
  have HGE := Lib.hid hge
  clear hw1 hbp hbq hge
  have p0 := hp1.at 0 (v := .int .i32 px) rfl
  have p1 := hp1.at 1 (v := .int .i32 py) rfl
  go_wp2_with fail
  (with_reducible refine (refIn_any _ _ _).mono ?_)
  rintro e w2 ⟨rfl, fr2⟩
  rw [HP.out]
  have hp2 := fr2.blk hp1 (by simp)
  have hq2 := fr2.blk hq1 (by simp)
  have q0 := hq2.at 0 (v := .int .i32 qx) rfl
  have q1 := hq2.at 1 (v := .int .i32 qy) rfl
  clear p0 p1 hp1 hq1
  go_wp2_with fail
  (with_reducible refine (refIn_any _ _ _).mono ?_)
  rintro e w3 ⟨rfl, fr3⟩
  rw [HQ.out]
  have hp3 := fr3.blk hp2 (by simp)
  have hq3 := fr3.blk hq2 (by simp)
  have FR := Lib.hid ((fr1.trans fr2 (by simp)).trans fr3 (by simp))
  clear q0 q1 hp2 hq2 fr1 fr2 fr3
  have p0 := hp3.at 0 (v := .int .i32 px) rfl
  have p1 := hp3.at 1 (v := .int .i32 py) rfl
  have q0 := hq3.at 0 (v := .int .i32 qx) rfl
  have q1 := hq3.at 1 (v := .int .i32 qy) rfl
  go_wp2_with fail
  obtain ⟨w4, rfl⟩ : ∃ w4 : World, w4 = w3 := ⟨_, rfl⟩
  have hp4 := hp3
  have hq4 := hq3
  have fr4 := FR.out
  clear p0 p1 q0 q1 hp3 hq3 FR
  (with_reducible refine (down_any _ _ _ ?_ ?_ ?_ ?_).mono ?_)
  · omega
  · omega
  · omega
  · omega
  rintro e w5 ⟨rfl, rfl⟩
  have p0 := hp4.at 0 (v := .int .i32 px) rfl
  have p1 := hp4.at 1 (v := .int .i32 py) rfl
  go_wp2_with fail
  (with_reducible refine (down_any _ _ _ ?_ ?_ ?_ ?_).mono ?_)
  · omega
  · omega
  · omega
  · omega
  rintro e w6 ⟨rfl, rfl⟩
  have hx1 := ediv_bd px s 1073741823 (by omega) (by omega) (by omega) (by omega)
  have hx2 := ediv_bd qx s 1073741823 (by omega) (by omega) (by omega) (by omega)
  have hx3 : px / s ≤ qx / s := Int.ediv_le_ediv (by omega) (by omega)
  clear p0 p1 hne
  have hH := Lib.hid (And.intro hp4 (And.intro hq4 fr4))
  clear hp4 hq4 fr4
  go_wp2_with fail
  go_loopw [9, 11] (fun o i wr => ∃ j : Nat, i = .int .i64 (px / s + (j : Int)) ∧ j ≤ cols px qx s ∧ (rowsUp (colOf px py qx qy s) j).length ≤ 401 ∧ Lst w wr (rowsUp (colOf px py qx qy s) j) o ∧ Blk wr bp #[.int .i32 px, .int .i32 py] 23 ∧ Blk wr bq #[.int .i32 qx, .int .i32 qy] 23) (fun _ i _ => (qx / s + 1 - intOf i).toNat)
  case atStart => exact ⟨0, by go_num, Nat.zero_le _, by simp [rowsUp], ⟨World.ownsRow_nil _ _ _ _, by simp [Value.ownBlock], hH.out.2.2⟩, hH.out.1, hH.out.2.1⟩
  case round =>
    obtain ⟨j, rfl, hj, hlen, hls, hpr, hqr⟩ := hrel
    obtain ⟨wo, rfl⟩ : ∃ wo : World, wo = wr := ⟨_, rfl⟩
    clear hH
    by_cases hlt : j < cols px qx s
    · have hle : px / s + (j : Int) ≤ qx / s := by unfold cols at hlt; omega
      have p0 := hpr.at 0 (v := .int .i32 px) rfl
      have p1 := hpr.at 1 (v := .int .i32 py) rfl
      have q0 := hqr.at 0 (v := .int .i32 qx) rfl
      have q1 := hqr.at 1 (v := .int .i32 qy) rfl
      have HR := col_any wo px py qx qy s (px / s + (j : Int)) ⟨bx1, bx2⟩ ⟨by1, by2⟩ ⟨cy1, cy2⟩ (by omega) cx2 ⟨s1, s2⟩ ⟨by omega, hle⟩
      obtain ⟨k1, k2, k3⟩ := col_bd (px := px) (py := py) (dx := qx - px) (dy := qy - py) (s := s) (c := px / s + (j : Int)) ⟨by1, by2⟩ (by omega) (by omega) ⟨s1, s2⟩ ⟨by omega, by rw [show px + (qx - px) = qx by omega]; exact hle⟩
      have hfj : colOf px py qx qy s j = colCells (colLow px py (qx - px) (qy - py) s (px / s + (j : Int))) (colHigh px py (qx - px) (qy - py) s (px / s + (j : Int))) (px / s + (j : Int)) := rfl
      obtain ⟨low, hlow⟩ : ∃ z, z = colLow px py (qx - px) (qy - py) s (px / s + (j : Int)) := ⟨_, rfl⟩
      obtain ⟨high, hhigh⟩ : ∃ z, z = colHigh px py (qx - px) (qy - py) s (px / s + (j : Int)) := ⟨_, rfl⟩
      simp only [← hlow, ← hhigh] at HR k1 k2 k3 hfj
      clear hlow hhigh
      unfold pt at HR
      have HR := Lib.hid HR
      have HK := Lib.hid (And.intro hlen (And.intro hls (And.intro hpr hqr)))
      have HFJ := Lib.hid hfj
      clear hfj hlen hls hpr hqr
      go_wp2_with fail
      (with_reducible refine HR.out.mono ?_)
      rintro e w7 ⟨rfl, f7⟩
      have HF7 := Lib.hid f7
      clear f7 p0 p1 q0 q1
      obtain ⟨n, hn⟩ : ∃ n, n = (high + 1 - low).toNat := ⟨_, rfl⟩
      have HN := Lib.hid hn
      have hn1 : (n : Int) ≤ high + 1 - low := by omega
      have hn2 : high + 1 - low ≤ (n : Int) := by omega
      clear hn
      go_wp2_with fail
      go_loopw [9, 14] (fun o y wr => ∃ i : Nat, y = .int .i64 (low + (i : Int)) ∧ i ≤ n ∧ (rowsUp (colOf px py qx qy s) j ++ (colOf px py qx qy s j).take i).length ≤ 401 ∧ Lst w wr (rowsUp (colOf px py qx qy s) j ++ (colOf px py qx qy s j).take i) o ∧ Blk wr bp #[.int .i32 px, .int .i32 py] 23 ∧ Blk wr bq #[.int .i32 qx, .int .i32 qy] 23) (fun _ y _ => (high + 1 - intOf y).toNat)
      case atStart => exact ⟨0, by go_num, Nat.zero_le _, by simpa using HK.out.1, by simpa using HK.out.2.1.frn HF7.out, HF7.out.blk HK.out.2.2.1 (by simp), HF7.out.blk HK.out.2.2.2 (by simp)⟩
      case round =>
        obtain ⟨i, rfl, hi, hlen, hls, hpr, hqr⟩ := hrel
        obtain ⟨wi, rfl⟩ : ∃ wi : World, wi = wr := ⟨_, rfl⟩
        have hcap := (show ∃ p c, u9 = .slice p (rowsUp (colOf px py qx qy s) j ++ (colOf px py qx qy s j).take i).length c by
          rcases hls.own.2 with ⟨h1, h2⟩ | ⟨g, cap, cur, h1, _⟩
          · exact ⟨none, 0, by rw [h1, h2]⟩
          · exact ⟨_, cap, h1⟩)
        obtain ⟨pv, cv, hu9⟩ := hcap
        by_cases hlt2 : i < n
        · have hle2 : low + (i : Int) ≤ high := by omega
          have hsn : rowsUp (colOf px py qx qy s) j ++ (colOf px py qx qy s j).take i ++ [(px / s + (j : Int), low + (i : Int))] = rowsUp (colOf px py qx qy s) j ++ (colOf px py qx qy s j).take (i + 1) := by
            rw [HFJ.out, colCells_take _ _ _ _ (by rw [← HN.out]; exact hlt2), List.append_assoc]
          have hpf : rowsUp (colOf px py qx qy s) j ++ (colOf px py qx qy s j).take i <+: rightCells px py qx qy s := rowsUp_take _ hlt _
          have HS := Lib.hid hsn
          have HPF := Lib.hid hpf
          have HW := Lib.hid (And.intro hls (And.intro hpr hqr))
          have hown := hls.own
          clear hsn hpf hls hpr hqr
          generalize rowsUp (colOf px py qx qy s) j ++ (colOf px py qx qy s j).take i = A at *
          have HLN := Lib.hid hlen
          rcases Nat.lt_or_ge A.length 401 with h4 | h4
          · have h4' : decide (401 ≤ (A.length : Int)) = false := by simp; omega
            subst hu9
            go_wp2_with (at_builtin; go_must (refine wpList_app _ rfl _ _ 27 rfl 33 (.agg #[.int .i32 0, .int .i32 0]) 2 8 Try.underlying27 info33 rfl (by decide) _ A.length (flat A) rfl (hown.alloc _) ⟨wi.heap.size, 0, none⟩ 1 1 [.int .i32 (px / s + (j : Int)), .int .i32 (low + (i : Int))] rfl rfl (new_list _ _ _ _ rfl) (by simp [Value.oneCell']) (by unfold maxLen; omega) (by omega) ?_); intro v1 w8 happ; have HA := Lib.hid happ; clear happ)
            go_roundw
            case rel =>
              obtain ⟨g1, g2⟩ := HW.out.1.app HA.out
              exact ⟨i + 1, by go_num, by omega, by rw [← HS.out]; simp; omega, by rw [← HS.out]; exact g1, g2 _ _ _ (by decide) HW.out.2.1, g2 _ _ _ (by decide) HW.out.2.2⟩
            case measure => simp [intOf]; omega
          · subst hu9
            go_wp2
            go_ret
            refine ⟨_, rfl, ?_⟩
            rw [take_of_prefix HPF.out (by have := HLN.out; omega)]
            exact ⟨HW.out.1.own, HW.out.1.at_, HW.out.1.fr⟩
        · obtain rfl : i = n := by omega
          have e : rowsUp (colOf px py qx qy s) j ++ (colOf px py qx qy s j).take i = rowsUp (colOf px py qx qy s) (j + 1) := by
            have : (colOf px py qx qy s j).take i = colOf px py qx qy s j := by rw [HFJ.out, HN.out]; exact colCells_all _ _ _
            rw [this, rowsUp_succ]
          rw [e] at hlen hls
          have HW := Lib.hid (And.intro hlen (And.intro hls (And.intro hpr hqr)))
          clear e hlen hls hpr hqr hu9
          have hgt : high < low + (i : Int) := by omega
          go_wp2
          go_roundw
          case rel => exact ⟨j + 1, by go_num, by omega, HW.out⟩
          case measure => simp [intOf]; omega
    · obtain rfl : j = cols px qx s := by omega
      have hgt : qx / s < px / s + (cols px qx s : Int) := by unfold cols; omega
      have hls' : Lst w wo (rightCells px py qx qy s) _ := hls
      have hlen' : (rightCells px py qx qy s).length ≤ 401 := hlen
      clear hls hlen
      generalize cols px qx s = c at *
      have HW := Lib.hid hls'
      clear hls'
      go_wp2
      go_ret
      refine ⟨_, rfl, ?_⟩
      rw [List.take_of_length_le hlen']
      exact ⟨HW.out.own, HW.out.at_, HW.out.fr⟩

set_option maxRecDepth 100000 in
set_option maxHeartbeats 2000000 in
theorem refFirst_swap (w : World) (px py qx qy s : Int) (hf : fits s = true) (hp : inB px py = true) (hq : inB qx qy = true) (hpq : px < qx) :
    Calls Try.prog 8 #[pt qx qy, pt px py, .int .i64 s, .int .i64 401] w (ListPost w ((rightCells px py qx qy s).take 401)) := by
  obtain ⟨s1, s2⟩ := fits_iff.1 hf
  obtain ⟨bx1, bx2, by1, by2⟩ := inB_iff.1 hp
  obtain ⟨cx1, cx2, cy1, cy2⟩ := inB_iff.1 hq
  unfold pt
  have HF := Lib.hid hf
  have HP := Lib.hid hp
  have HQ := Lib.hid hq
  clear hf hp hq
  go_enter Try.func8, Try.ntmps8
  go_wp2_with fail
  (with_reducible refine (fits_any _ _).mono ?_)
  rintro e w1 ⟨rfl, hw1⟩
  rw [HF.out]
  obtain ⟨bp, hbp⟩ : ∃ b, b = w.heap.size := ⟨_, rfl⟩
  obtain ⟨bq, hbq⟩ : ∃ b, b = w.heap.size + 1 := ⟨_, rfl⟩
  rw [← hbq, ← hbp]
  have hp1 : Blk w1 bp #[.int .i32 qx, .int .i32 qy] 23 := by rw [← hw1, hbp]; exact (Blk.new _ _ _).alloc _
  have hq1 : Blk w1 bq #[.int .i32 px, .int .i32 py] 23 := by rw [← hw1, hbq]; exact Blk.new_at (by simp) _ _
  have fr1 : Fr [] w w1 := by rw [← hw1]; exact ((Fr.refl _ _).alloc _).alloc _
  have hne : bp ≠ bq := by omega
  have hge : w.heap.size ≤ bp ∧ w.heap.size ≤ bq := by omega
  have HGE := Lib.hid hge
  clear hw1 hbp hbq hge
  have p0 := hp1.at 0 (v := .int .i32 qx) rfl
  have p1 := hp1.at 1 (v := .int .i32 qy) rfl
  go_wp2_with fail
  (with_reducible refine (refIn_any _ _ _).mono ?_)
  rintro e w2 ⟨rfl, fr2⟩
  rw [HQ.out]
  have hp2 := fr2.blk hp1 (by simp)
  have hq2 := fr2.blk hq1 (by simp)
  have q0 := hq2.at 0 (v := .int .i32 px) rfl
  have q1 := hq2.at 1 (v := .int .i32 py) rfl
  clear p0 p1 hp1 hq1
  go_wp2_with fail
  (with_reducible refine (refIn_any _ _ _).mono ?_)
  rintro e w3 ⟨rfl, fr3⟩
  rw [HP.out]
  have hp3 := fr3.blk hp2 (by simp)
  have hq3 := fr3.blk hq2 (by simp)
  have FR := Lib.hid ((fr1.trans fr2 (by simp)).trans fr3 (by simp))
  clear q0 q1 hp2 hq2 fr1 fr2 fr3
  have p0 := hp3.at 0 (v := .int .i32 qx) rfl
  have p1 := hp3.at 1 (v := .int .i32 qy) rfl
  have q0 := hq3.at 0 (v := .int .i32 px) rfl
  have q1 := hq3.at 1 (v := .int .i32 py) rfl
  have z0 := hp3.free 0
  have z1 := hp3.free 1
  have z2 := hq3.free 0
  have z3 := hq3.free 1
  have hne2 : bq ≠ bp := Ne.symm hne
  go_wp2_with fail
  have hp4 : Blk ((((w3.setCell ⟨bp, 0, none⟩ (.int .i32 px)).setCell ⟨bp, 1, none⟩ (.int .i32 py)).setCell ⟨bq, 0, none⟩ (.int .i32 qx)).setCell ⟨bq, 1, none⟩ (.int .i32 qy)) bp #[.int .i32 px, .int .i32 py] 23 :=
    (((hp3.set 0 (.int .i32 px)).set 1 (.int .i32 py)).other _ _ hne).other _ _ hne
  have hq4 : Blk ((((w3.setCell ⟨bp, 0, none⟩ (.int .i32 px)).setCell ⟨bp, 1, none⟩ (.int .i32 py)).setCell ⟨bq, 0, none⟩ (.int .i32 qx)).setCell ⟨bq, 1, none⟩ (.int .i32 qy)) bq #[.int .i32 qx, .int .i32 qy] 23 :=
    (((hq3.other _ _ hne2).other _ _ hne2).set 0 (.int .i32 qx)).set 1 (.int .i32 qy)
  have fr4 : Fr [] w ((((w3.setCell ⟨bp, 0, none⟩ (.int .i32 px)).setCell ⟨bp, 1, none⟩ (.int .i32 py)).setCell ⟨bq, 0, none⟩ (.int .i32 qx)).setCell ⟨bq, 1, none⟩ (.int .i32 qy)) :=
    (((FR.out.setCell _ _ (.inr HGE.out.1)).setCell _ _ (.inr HGE.out.1)).setCell _ _ (.inr HGE.out.2)).setCell _ _ (.inr HGE.out.2)
  generalize (((w3.setCell ⟨bp, 0, none⟩ (.int .i32 px)).setCell ⟨bp, 1, none⟩ (.int .i32 py)).setCell ⟨bq, 0, none⟩ (.int .i32 qx)).setCell ⟨bq, 1, none⟩ (.int .i32 qy) = w4 at *
  clear p0 p1 q0 q1 z0 z1 z2 z3 hne2 hp3 hq3 FR
  (with_reducible refine (down_any _ _ _ ?_ ?_ ?_ ?_).mono ?_)
  · omega
  · omega
  · omega
  · omega
  rintro e w5 ⟨rfl, rfl⟩
  have p0 := hp4.at 0 (v := .int .i32 px) rfl
  have p1 := hp4.at 1 (v := .int .i32 py) rfl
  go_wp2_with fail
  (with_reducible refine (down_any _ _ _ ?_ ?_ ?_ ?_).mono ?_)
  · omega
  · omega
  · omega
  · omega
  rintro e w6 ⟨rfl, rfl⟩
  have hx1 := ediv_bd px s 1073741823 (by omega) (by omega) (by omega) (by omega)
  have hx2 := ediv_bd qx s 1073741823 (by omega) (by omega) (by omega) (by omega)
  have hx3 : px / s ≤ qx / s := Int.ediv_le_ediv (by omega) (by omega)
  clear p0 p1 hne
  have hH := Lib.hid (And.intro hp4 (And.intro hq4 fr4))
  clear hp4 hq4 fr4
  go_wp2_with fail
  go_loopw [9, 11] (fun o i wr => ∃ j : Nat, i = .int .i64 (px / s + (j : Int)) ∧ j ≤ cols px qx s ∧ (rowsUp (colOf px py qx qy s) j).length ≤ 401 ∧ Lst w wr (rowsUp (colOf px py qx qy s) j) o ∧ Blk wr bp #[.int .i32 px, .int .i32 py] 23 ∧ Blk wr bq #[.int .i32 qx, .int .i32 qy] 23) (fun _ i _ => (qx / s + 1 - intOf i).toNat)
  case atStart => exact ⟨0, by go_num, Nat.zero_le _, by simp [rowsUp], ⟨World.ownsRow_nil _ _ _ _, by simp [Value.ownBlock], hH.out.2.2⟩, hH.out.1, hH.out.2.1⟩
  case round =>
    obtain ⟨j, rfl, hj, hlen, hls, hpr, hqr⟩ := hrel
    obtain ⟨wo, rfl⟩ : ∃ wo : World, wo = wr := ⟨_, rfl⟩
    clear hH
    by_cases hlt : j < cols px qx s
    · have hle : px / s + (j : Int) ≤ qx / s := by unfold cols at hlt; omega
      have p0 := hpr.at 0 (v := .int .i32 px) rfl
      have p1 := hpr.at 1 (v := .int .i32 py) rfl
      have q0 := hqr.at 0 (v := .int .i32 qx) rfl
      have q1 := hqr.at 1 (v := .int .i32 qy) rfl
      have HR := col_any wo px py qx qy s (px / s + (j : Int)) ⟨bx1, bx2⟩ ⟨by1, by2⟩ ⟨cy1, cy2⟩ (by omega) cx2 ⟨s1, s2⟩ ⟨by omega, hle⟩
      obtain ⟨k1, k2, k3⟩ := col_bd (px := px) (py := py) (dx := qx - px) (dy := qy - py) (s := s) (c := px / s + (j : Int)) ⟨by1, by2⟩ (by omega) (by omega) ⟨s1, s2⟩ ⟨by omega, by rw [show px + (qx - px) = qx by omega]; exact hle⟩
      have hfj : colOf px py qx qy s j = colCells (colLow px py (qx - px) (qy - py) s (px / s + (j : Int))) (colHigh px py (qx - px) (qy - py) s (px / s + (j : Int))) (px / s + (j : Int)) := rfl
      obtain ⟨low, hlow⟩ : ∃ z, z = colLow px py (qx - px) (qy - py) s (px / s + (j : Int)) := ⟨_, rfl⟩
      obtain ⟨high, hhigh⟩ : ∃ z, z = colHigh px py (qx - px) (qy - py) s (px / s + (j : Int)) := ⟨_, rfl⟩
      simp only [← hlow, ← hhigh] at HR k1 k2 k3 hfj
      clear hlow hhigh
      unfold pt at HR
      have HR := Lib.hid HR
      have HK := Lib.hid (And.intro hlen (And.intro hls (And.intro hpr hqr)))
      have HFJ := Lib.hid hfj
      clear hfj hlen hls hpr hqr
      go_wp2_with fail
      (with_reducible refine HR.out.mono ?_)
      rintro e w7 ⟨rfl, f7⟩
      have HF7 := Lib.hid f7
      clear f7 p0 p1 q0 q1
      obtain ⟨n, hn⟩ : ∃ n, n = (high + 1 - low).toNat := ⟨_, rfl⟩
      have HN := Lib.hid hn
      have hn1 : (n : Int) ≤ high + 1 - low := by omega
      have hn2 : high + 1 - low ≤ (n : Int) := by omega
      clear hn
      go_wp2_with fail
      go_loopw [9, 14] (fun o y wr => ∃ i : Nat, y = .int .i64 (low + (i : Int)) ∧ i ≤ n ∧ (rowsUp (colOf px py qx qy s) j ++ (colOf px py qx qy s j).take i).length ≤ 401 ∧ Lst w wr (rowsUp (colOf px py qx qy s) j ++ (colOf px py qx qy s j).take i) o ∧ Blk wr bp #[.int .i32 px, .int .i32 py] 23 ∧ Blk wr bq #[.int .i32 qx, .int .i32 qy] 23) (fun _ y _ => (high + 1 - intOf y).toNat)
      case atStart => exact ⟨0, by go_num, Nat.zero_le _, by simpa using HK.out.1, by simpa using HK.out.2.1.frn HF7.out, HF7.out.blk HK.out.2.2.1 (by simp), HF7.out.blk HK.out.2.2.2 (by simp)⟩
      case round =>
        obtain ⟨i, rfl, hi, hlen, hls, hpr, hqr⟩ := hrel
        obtain ⟨wi, rfl⟩ : ∃ wi : World, wi = wr := ⟨_, rfl⟩
        have hcap := (show ∃ p c, u9 = .slice p (rowsUp (colOf px py qx qy s) j ++ (colOf px py qx qy s j).take i).length c by
          rcases hls.own.2 with ⟨h1, h2⟩ | ⟨g, cap, cur, h1, _⟩
          · exact ⟨none, 0, by rw [h1, h2]⟩
          · exact ⟨_, cap, h1⟩)
        obtain ⟨pv, cv, hu9⟩ := hcap
        by_cases hlt2 : i < n
        · have hle2 : low + (i : Int) ≤ high := by omega
          have hsn : rowsUp (colOf px py qx qy s) j ++ (colOf px py qx qy s j).take i ++ [(px / s + (j : Int), low + (i : Int))] = rowsUp (colOf px py qx qy s) j ++ (colOf px py qx qy s j).take (i + 1) := by
            rw [HFJ.out, colCells_take _ _ _ _ (by rw [← HN.out]; exact hlt2), List.append_assoc]
          have hpf : rowsUp (colOf px py qx qy s) j ++ (colOf px py qx qy s j).take i <+: rightCells px py qx qy s := rowsUp_take _ hlt _
          have HS := Lib.hid hsn
          have HPF := Lib.hid hpf
          have HW := Lib.hid (And.intro hls (And.intro hpr hqr))
          have hown := hls.own
          clear hsn hpf hls hpr hqr
          generalize rowsUp (colOf px py qx qy s) j ++ (colOf px py qx qy s j).take i = A at *
          have HLN := Lib.hid hlen
          rcases Nat.lt_or_ge A.length 401 with h4 | h4
          · have h4' : decide (401 ≤ (A.length : Int)) = false := by simp; omega
            subst hu9
            go_wp2_with (at_builtin; go_must (refine wpList_app _ rfl _ _ 27 rfl 33 (.agg #[.int .i32 0, .int .i32 0]) 2 8 Try.underlying27 info33 rfl (by decide) _ A.length (flat A) rfl (hown.alloc _) ⟨wi.heap.size, 0, none⟩ 1 1 [.int .i32 (px / s + (j : Int)), .int .i32 (low + (i : Int))] rfl rfl (new_list _ _ _ _ rfl) (by simp [Value.oneCell']) (by unfold maxLen; omega) (by omega) ?_); intro v1 w8 happ; have HA := Lib.hid happ; clear happ)
            go_roundw
            case rel =>
              obtain ⟨g1, g2⟩ := HW.out.1.app HA.out
              exact ⟨i + 1, by go_num, by omega, by rw [← HS.out]; simp; omega, by rw [← HS.out]; exact g1, g2 _ _ _ (by decide) HW.out.2.1, g2 _ _ _ (by decide) HW.out.2.2⟩
            case measure => simp [intOf]; omega
          · subst hu9
            go_wp2
            go_ret
            refine ⟨_, rfl, ?_⟩
            rw [take_of_prefix HPF.out (by have := HLN.out; omega)]
            exact ⟨HW.out.1.own, HW.out.1.at_, HW.out.1.fr⟩
        · obtain rfl : i = n := by omega
          have e : rowsUp (colOf px py qx qy s) j ++ (colOf px py qx qy s j).take i = rowsUp (colOf px py qx qy s) (j + 1) := by
            have : (colOf px py qx qy s j).take i = colOf px py qx qy s j := by rw [HFJ.out, HN.out]; exact colCells_all _ _ _
            rw [this, rowsUp_succ]
          rw [e] at hlen hls
          have HW := Lib.hid (And.intro hlen (And.intro hls (And.intro hpr hqr)))
          clear e hlen hls hpr hqr hu9
          have hgt : high < low + (i : Int) := by omega
          go_wp2
          go_roundw
          case rel => exact ⟨j + 1, by go_num, by omega, HW.out⟩
          case measure => simp [intOf]; omega
    · obtain rfl : j = cols px qx s := by omega
      have hgt : qx / s < px / s + (cols px qx s : Int) := by unfold cols; omega
      have hls' : Lst w wo (rightCells px py qx qy s) _ := hls
      have hlen' : (rightCells px py qx qy s).length ≤ 401 := hlen
      clear hls hlen
      generalize cols px qx s = c at *
      have HW := Lib.hid hls'
      clear hls'
      go_wp2
      go_ret
      refine ⟨_, rfl, ?_⟩
      rw [List.take_of_length_le hlen']
      exact ⟨HW.out.own, HW.out.at_, HW.out.fr⟩

end Go.Proofs.Ythagbhiblncpkaa
