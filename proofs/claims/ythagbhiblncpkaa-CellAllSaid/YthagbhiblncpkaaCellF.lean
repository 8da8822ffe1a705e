/-
  The iterator of cell.Line, as it is ranged over.
-/
import Derived.Test.YthagbhiblncpkaaCellE
import Derived.Test.YthagbhiblncpkaaRange
import Derived.Deep.RegionHeld3
import Derived.Shelf.Abstract
import Derived.Shelf.RegionOpen
import Derived.OwnWalkIn
import Derived.TacticsInMore
import Derived.LoopNIn
import Derived.LoopIn
import Derived.WalkMore
namespace Go.Proofs.Ythagbhiblncpkaa
open Go.RowKit Go.Shelf
set_option linter.unusedVariables false
attribute [local go_sem] Oper.semAt_some

/-- A list row by row. -/
def rowsUp {α : Type} (f : Nat → List α) (j : Nat) : List α := (List.range j).flatMap f
theorem rowsUp_succ {α : Type} (f : Nat → List α) (j : Nat) : rowsUp f (j + 1) = rowsUp f j ++ f j := by simp [rowsUp, List.range_succ]
theorem rowsUp_prefix {α : Type} (f : Nat → List α) {j m : Nat} (h : j ≤ m) : rowsUp f j <+: rowsUp f m := by
  obtain ⟨d, rfl⟩ := Nat.le.dest h
  induction d with
  | zero => exact List.prefix_refl _
  | succ d ih => rw [← Nat.add_assoc, rowsUp_succ]; exact (ih (by omega)).trans (List.prefix_append _ _)
theorem rowsUp_take {α : Type} (f : Nat → List α) {j m : Nat} (h : j < m) (i : Nat) : rowsUp f j ++ (f j).take i <+: rowsUp f m := by
  refine List.IsPrefix.trans ?_ (rowsUp_prefix f (show j + 1 ≤ m from h))
  rw [rowsUp_succ, List.prefix_append_right_inj]
  exact List.take_prefix _ _

/-- The cells of a column, from low to high. -/
def colCells (low high c : Int) : List (Int × Int) := (List.range (high + 1 - low).toNat).map fun (k : Nat) => (c, low + (k : Int))
theorem colCells_len (low high c : Int) : (colCells low high c).length = (high + 1 - low).toNat := by simp [colCells]
theorem colCells_take (low high c : Int) (i : Nat) (h : i < (high + 1 - low).toNat) : (colCells low high c).take (i + 1) = (colCells low high c).take i ++ [(c, low + (i : Int))] := by
  simp only [colCells, ← List.map_take, List.take_range, Nat.min_eq_left (show i + 1 ≤ _ from h), Nat.min_eq_left (show i ≤ _ from Nat.le_of_lt h), List.range_succ, List.map_append, List.map_cons, List.map_nil]
theorem colCells_all (low high c : Int) : (colCells low high c).take (high + 1 - low).toNat = colCells low high c := List.take_of_length_le (by simp [colCells])

/-- The cells of a segment that does not go to the left. -/
def colOf (px py qx qy s : Int) (j : Nat) : List (Int × Int) :=
  colCells (colLow px py (qx - px) (qy - py) s (px / s + (j : Int))) (colHigh px py (qx - px) (qy - py) s (px / s + (j : Int))) (px / s + (j : Int))
def cols (px qx s : Int) : Nat := (qx / s + 1 - px / s).toNat
def rightCells (px py qx qy s : Int) : List (Int × Int) := rowsUp (colOf px py qx qy s) (cols px qx s)

def cellArg (c : Int × Int) : Array Value := #[pt c.1 c.2]

/-- What the iterator holds. -/
structure Held (bs bp bq : Nat) (px py qx qy s : Int) (W : World) : Prop where
  s : Blk W bs #[.int .i64 s] 2
  p : Blk W bp #[.int .i32 px, .int .i32 py] 23
  q : Blk W bq #[.int .i32 qx, .int .i32 qy] 23
  ne : bp ≠ bq
theorem Held.fr {bs bp bq : Nat} {px py qx qy s : Int} {W W' : World} (h : Held bs bp bq px py qx qy s W) (f : Fr [] W W') : Held bs bp bq px py qx qy s W' :=
  ⟨f.blk h.s (by simp), f.blk h.p (by simp), f.blk h.q (by simp), h.ne⟩
theorem Held.cells {bs bp bq : Nat} {px py qx qy s : Int} {W : World} (h : Held bs bp bq px py qx qy s W) :
    W.cell? ⟨bs, 0, none⟩ = some (.int .i64 s) ∧ W.cell? ⟨bp, 0, none⟩ = some (.int .i32 px) ∧ W.cell? ⟨bp, 1, none⟩ = some (.int .i32 py) ∧ W.cell? ⟨bq, 0, none⟩ = some (.int .i32 qx) ∧ W.cell? ⟨bq, 1, none⟩ = some (.int .i32 qy) :=
  ⟨h.s.at 0 rfl, h.p.at 0 rfl, h.p.at 1 rfl, h.q.at 0 rfl, h.q.at 1 rfl⟩
theorem inB_iff {x y : Int} : inB x y = true ↔ (-1073741823 ≤ x ∧ x ≤ 1073741823 ∧ -1073741823 ≤ y ∧ y ≤ 1073741823) := by unfold inB; exact decide_eq_true_iff
theorem Held.keeps {bs bp bq : Nat} {px py qx qy s : Int} {W W' : World} (h : Held bs bp bq px py qx qy s W) (k : KeepsTy [2, 23, 58] W W') : Held bs bp bq px py qx qy s W' :=
  ⟨k _ _ _ (by simp) h.s, k _ _ _ (by simp) h.p, k _ _ _ (by simp) h.q, h.ne⟩

theorem field33 (a b : Int) (w : World) : (Instr.field 33 (.agg #[.int .i32 a, .int .i32 b]) 0).run Try.prog w = .ok (.int .i32 a) w := by kernel_rfl

set_option maxRecDepth 100000 in
set_option maxHeartbeats 1000000 in
theorem line_in (m l bs bp bq : Nat) (px py qx qy s : Int) (hf : fits s = true) (hp : inB px py = true) (hq : inB qx qy = true) (hpq : px ≤ qx)
    (J Jx : List (Int × Int) → World → Prop) (W : World) (hh : Held bs bp bq px py qx qy s W) (hJ : Ab W.heap.size [bp, bq] J)
    (hY : ∀ pre x W1, J pre W1 → pre.length < (rightCells px py qx qy s).length → YieldAt Fence.wide (m - 1) Try.prog l (cellArg x) W1 fun e W' =>
      KeepsTy [2, 23, 58] W1 W' ∧ ((e = .returned (.bool true) ∧ J (pre ++ [x]) W') ∨ (e = .returned (.bool false) ∧ Jx (pre ++ [x]) W')))
    (h0 : J [] W) :
    CallsIn Fence.wide m Try.prog 30 #[.func (.yield l) #[] #[], .pointer (some ⟨bs, 0, none⟩), .pointer (some ⟨bp, 0, none⟩), .pointer (some ⟨bq, 0, none⟩)] W fun e W' =>
      (∃ v, e = .returned v) ∧ Held bs bp bq px py qx qy s W' ∧ (J (rightCells px py qx qy s) W' ∨ ∃ pre, pre <+: rightCells px py qx qy s ∧ Jx pre W') := by
  obtain ⟨s1, s2⟩ := fits_iff.1 hf
  obtain ⟨bx1, bx2, by1, by2⟩ := inB_iff.1 hp
  obtain ⟨cx1, cx2, cy1, cy2⟩ := inB_iff.1 hq
  have v1 := wr (x := px) (by omega)
  have v2 := wr (x := py) (by omega)
  have v3 := wr (x := qx) (by omega)
  have v4 := wr (x := qy) (by omega)
  have v5 := wr (x := qx - px) (by omega)
  have v6 := wr (x := qy - py) (by omega)
  have HP := Lib.hid (show ∀ w, Calls Try.prog 33 #[.agg #[.int .i32 px, .int .i32 py], .int .i64 s] w fun e w' => e = .returned (.agg #[.int .i32 (px / s), .int .i32 (py / s)]) ∧ Fr [] w w' from fun w => of_any w px py s (by unfold I32; omega) (by unfold I32; omega) s1 s2)
  have HQ := Lib.hid (show ∀ w, Calls Try.prog 33 #[.agg #[.int .i32 qx, .int .i32 qy], .int .i64 s] w fun e w' => e = .returned (.agg #[.int .i32 (qx / s), .int .i32 (qy / s)]) ∧ Fr [] w w' from fun w => of_any w qx qy s (by unfold I32; omega) (by unfold I32; omega) s1 s2)
  refine callsIn_of_wp Try.func30 rfl trivial ?_ rfl
  simp only [Try.ntmps30, List.size_toArray, List.length_cons, List.length_nil, Nat.reduceAdd, Nat.reduceSub, Array.replicate_succ, Array.replicate_zero, List.push_toArray, List.append_toArray, List.nil_append, List.cons_append]
  refine wpIn_wide.2 ?_
  have s0 := hh.s.at 0 (v := .int .i64 s) rfl
  have p0 := hh.p.at 0 (v := .int .i32 px) rfl
  have p1 := hh.p.at 1 (v := .int .i32 py) rfl
  have q0 := hh.q.at 0 (v := .int .i32 qx) rfl
  have q1 := hh.q.at 1 (v := .int .i32 qy) rfl
  go_wp2_with fail
  (with_reducible refine (isSize_any _ _).mono ?_)
  rintro e w1 ⟨rfl, rfl⟩
  rw [hf]
  go_wp2_with fail
  (with_reducible refine (in_any _ _ _).mono ?_)
  rintro e w1 ⟨rfl, fr1⟩
  rw [hp]
  have hh1 := hh.fr fr1
  have q0 := hh1.q.at 0 (v := .int .i32 qx) rfl
  have q1 := hh1.q.at 1 (v := .int .i32 qy) rfl
  have hJ1 := hJ.fr h0 fr1
  go_wp2_with fail
  (with_reducible refine (in_any _ _ _).mono ?_)
  rintro e w2 ⟨rfl, fr2⟩
  rw [hq]
  have hh2 := hh1.fr fr2
  have s0 := hh2.s.at 0 (v := .int .i64 s) rfl
  have p0 := hh2.p.at 0 (v := .int .i32 px) rfl
  have p1 := hh2.p.at 1 (v := .int .i32 py) rfl
  have q0 := hh2.q.at 0 (v := .int .i32 qx) rfl
  have q1 := hh2.q.at 1 (v := .int .i32 qy) rfl
  have hJ2 := hJ.fr hJ1 fr2
  have F2 := (Fr.refl [] W).trans (fr1.trans fr2 (by simp)) (by simp)
  clear hh hh1 h0 hJ1 fr1 fr2
  go_wp2_with fail
  generalize hw3 : World.alloc w2 _ = w3
  obtain ⟨z, hz⟩ : ∃ z, z = w2.heap.size := ⟨_, rfl⟩
  rw [← hz]
  have hl3 : Blk w3 z #[.int .i64 px, .int .i64 py, .int .i64 (qx - px), .int .i64 (qy - py), .int .i64 s] 58 := by rw [hz, ← hw3]; exact Blk.new _ _ _
  have f3 : Fr [] w2 w3 := by rw [← hw3]; exact (Fr.refl _ _).alloc _
  have hh3 := hh2.fr f3
  have hJ3 := hJ.fr hJ2 f3
  have S3 := hh3.cells
  have HH := Lib.hid (And.intro hh3 (And.intro hJ3 hl3))
  clear hh2 hJ2 F2 s0 p0 p1 q0 q1 hh3 hJ3 hl3 f3 hw3 hz
  have hfd := field33
  go_region_held3 (fun w' => w'.cell? ⟨bs, 0, none⟩ = some (.int .i64 s) ∧ w'.cell? ⟨bp, 0, none⟩ = some (.int .i32 px) ∧ w'.cell? ⟨bp, 1, none⟩ = some (.int .i32 py) ∧ w'.cell? ⟨bq, 0, none⟩ = some (.int .i32 qx) ∧ w'.cell? ⟨bq, 1, none⟩ = some (.int .i32 qy)) (first | exact S3 | exact S4 | exact S5)
    (first
      | (go_at_call_of 33 (Value.int IntKind.i32 px); refine (HP.out _).mono ?_; rintro e w4 ⟨rfl, f4⟩; have S4 := ((HH.out.1.fr (Fr.refl [] w3).drew).fr f4).cells)
      | (go_at_call_of 33 (Value.int IntKind.i32 qx); refine (HQ.out _).mono ?_; rintro e w5 ⟨rfl, f5⟩; have S5 := (((HH.out.1.fr (Fr.refl [] w3).drew).fr f4).fr f5).cells))
  simp only [Exit.then]
  obtain ⟨hh3, hJ3, hl3⟩ := HH.out
  have F5 : Fr [] w3 w5 := (((Fr.refl [] w3).drew).trans f4 (by simp)).trans f5 (by simp)
  have hh5 := hh3.fr F5
  have hJ5 := hJ.fr hJ3 F5
  have hl5 := F5.blk hl3 (by simp)
  have hx1 := ediv_bd px s 1073741823 (by omega) (by omega) (by omega) (by omega)
  have hx2 := ediv_bd qx s 1073741823 (by omega) (by omega) (by omega) (by omega)
  have hx3 : px / s ≤ qx / s := Int.ediv_le_ediv (by omega) hpq
  clear S3 S4 S5 HH hh3 hJ3 hl3 f4 f5 F5 HP HQ hfd
  go_wp2_with fail
  go_loopw [8] (fun i wr => ∃ j : Nat, i = .int .i32 (px / s + (j : Int)) ∧ j ≤ cols px qx s ∧ J (rowsUp (colOf px py qx qy s) j) wr ∧ Held bs bp bq px py qx qy s wr ∧ Blk wr z #[.int .i64 px, .int .i64 py, .int .i64 (qx - px), .int .i64 (qy - py), .int .i64 s] 58) (fun i _ => (qx / s + 1 - intOf i).toNat)
  case atStart => exact ⟨0, by go_num, Nat.zero_le _, hJ5, hh5, hl5⟩
  case round =>
    obtain ⟨j, rfl, hj, hJr, hhr, hlr⟩ := hrel
    obtain ⟨wo, rfl⟩ : ∃ wo : World, wo = wr := ⟨_, rfl⟩
    have l0 := hlr.at 0 (v := .int .i64 px) rfl
    have l1 := hlr.at 1 (v := .int .i64 py) rfl
    have l2 := hlr.at 2 (v := .int .i64 (qx - px)) rfl
    have l3 := hlr.at 3 (v := .int .i64 (qy - py)) rfl
    have l4 := hlr.at 4 (v := .int .i64 s) rfl
    by_cases hlt : j < cols px qx s
    · have hle : px / s + (j : Int) ≤ qx / s := by unfold cols at hlt; omega
      have hwc := wr (x := px / s + (j : Int)) (by omega)
      have HR := rows_any wo px py (qx - px) (qy - py) s (px / s + (j : Int)) ⟨bx1, bx2⟩ ⟨by1, by2⟩ (by omega) (by omega) (by omega) ⟨s1, s2⟩ ⟨by omega, by rw [show px + (qx - px) = qx by omega]; exact hle⟩
      obtain ⟨k1, k2, k3⟩ := col_bd (px := px) (py := py) (dx := qx - px) (dy := qy - py) (s := s) (c := px / s + (j : Int)) ⟨by1, by2⟩ (by omega) (by omega) ⟨s1, s2⟩ ⟨by omega, by rw [show px + (qx - px) = qx by omega]; exact hle⟩
      have hfj : colOf px py qx qy s j = colCells (colLow px py (qx - px) (qy - py) s (px / s + (j : Int))) (colHigh px py (qx - px) (qy - py) s (px / s + (j : Int))) (px / s + (j : Int)) := rfl
      obtain ⟨low, hlow⟩ : ∃ z, z = colLow px py (qx - px) (qy - py) s (px / s + (j : Int)) := ⟨_, rfl⟩
      obtain ⟨high, hhigh⟩ : ∃ z, z = colHigh px py (qx - px) (qy - py) s (px / s + (j : Int)) := ⟨_, rfl⟩
      simp only [← hlow, ← hhigh] at HR k1 k2 k3 hfj
      clear hlow hhigh
      unfold ln at HR
      have HK := Lib.hid (And.intro hJr (And.intro hhr (And.intro hlr hfj)))
      have HR := Lib.hid HR
      clear hJr hhr hlr hfj
      go_wp2_with fail
      (with_reducible refine HR.out.mono ?_)
      rintro e w6 ⟨rfl, f6⟩
      have HF6 := Lib.hid f6
      clear f6
      go_wp2_with fail
      obtain ⟨hJr, hhr, hlr, hfj⟩ := HK.out
      have f6 := HF6.out
      have hJ6 := hJ.fr hJr f6
      have hh6 := hhr.fr f6
      have hl6 := f6.blk hlr (by simp)
      obtain ⟨n, hn⟩ : ∃ n, n = (high + 1 - low).toNat := ⟨_, rfl⟩
      have hnh : (n : Int) = high + 1 - low := by omega
      have HN := Lib.hid hn
      have hn1 : (n : Int) ≤ high + 1 - low := by omega
      have hn2 : high + 1 - low ≤ (n : Int) := by omega
      clear hJr hhr hlr f6 hn hnh l0 l1 l2 l3 l4
      have HFJ := Lib.hid hfj
      clear hfj
      go_loopw [11] (fun y wr => ∃ i : Nat, y = .int .i64 (low + (i : Int)) ∧ i ≤ n ∧ J (rowsUp (colOf px py qx qy s) j ++ (colOf px py qx qy s j).take i) wr ∧ Held bs bp bq px py qx qy s wr ∧ Blk wr z #[.int .i64 px, .int .i64 py, .int .i64 (qx - px), .int .i64 (qy - py), .int .i64 s] 58) (fun y _ => (high + 1 - intOf y).toNat)
      case atStart => exact ⟨0, by go_num, Nat.zero_le _, by simpa using hJ6, hh6, hl6⟩
      case round =>
        obtain ⟨i, rfl, hi, hJi, hhi, hli⟩ := hrel
        obtain ⟨wi, rfl⟩ : ∃ wi : World, wi = wr := ⟨_, rfl⟩
        by_cases hlt2 : i < n
        · have hle2 : low + (i : Int) ≤ high := by omega
          have hsn : rowsUp (colOf px py qx qy s) j ++ (colOf px py qx qy s j).take i ++ [(px / s + (j : Int), low + (i : Int))] = rowsUp (colOf px py qx qy s) j ++ (colOf px py qx qy s j).take (i + 1) := by
            rw [HFJ.out, colCells_take _ _ _ _ (by rw [← HN.out]; exact hlt2), List.append_assoc]
          obtain ⟨f, tm, asg, body, hy, hR⟩ := hY _ (px / s + (j : Int), low + (i : Int)) wi hJi (by
            have := (rowsUp_take (colOf px py qx qy s) hlt (i + 1)).length_le
            rw [← hsn] at this
            simp only [List.length_append, List.length_cons, List.length_nil] at this ⊢
            exact this)
          rw [hsn] at hR
          simp only [cellArg, pt] at hy
          have HR := Lib.hid hR
          have HY := Lib.hid hY
          have HH := Lib.hid (And.intro hhi hli)
          have HS := Lib.hid hsn
          clear hR hY hJi hhi hli hsn
          refine (wpIn_wide (n := m)).1 ?_
          gi_wp2
          refine ⟨fun h => by simp [Fence.wide] at h, HR.out.mono ?_⟩
          rintro e W3 ⟨hk3, (⟨rfl, hJ3⟩ | ⟨rfl, hJx3⟩)⟩
          · gi_wp2
            exact ⟨⟨i + 1, by go_num, by omega, hJ3, HH.out.1.keeps hk3, hk3 _ _ _ (by simp) HH.out.2⟩, by simp [intOf]; omega⟩
          · gi_wp2
            refine bodyPost_ret (results_none rfl _ _ _) rfl ⟨⟨_, rfl⟩, HH.out.1.keeps hk3, .inr ⟨_, ?_, hJx3⟩⟩
            exact rowsUp_take _ hlt _
        · obtain rfl : i = n := by omega
          have hJn : J (rowsUp (colOf px py qx qy s) (j + 1)) wi := by
            rw [rowsUp_succ]
            have : (colOf px py qx qy s j).take i = colOf px py qx qy s j := by rw [HFJ.out, HN.out]; exact colCells_all _ _ _
            rwa [this] at hJi
          clear hJi
          have hgt : high < low + (i : Int) := by omega
          have hwi : IntKind.i32.wrap (px / s + (j : Int) + 1) = px / s + (j : Int) + 1 := by rw [IntKind.wrap_i32]; omega
          go_wp2
          exact ⟨⟨j + 1, by go_num, by omega, hJn, hhi, hli⟩, by simp [intOf]; omega⟩
    · obtain rfl : j = cols px qx s := by omega
      have hgt : qx / s < px / s + (cols px qx s : Int) := by unfold cols; omega
      have hJr' : J (rightCells px py qx qy s) wo := hJr
      clear hJr
      generalize cols px qx s = c at *
      go_wp2
      go_end0
      exact ⟨⟨_, rfl⟩, hhr, .inl hJr'⟩

set_option maxRecDepth 100000 in
set_option maxHeartbeats 1000000 in
theorem line_swap (m l bs bp bq : Nat) (px py qx qy s : Int) (hf : fits s = true) (hp : inB px py = true) (hq : inB qx qy = true) (hpq : px < qx)
    (J Jx : List (Int × Int) → World → Prop) (W : World) (hh : Held bs bp bq qx qy px py s W) (hJ : Ab W.heap.size [bp, bq] J)
    (hY : ∀ pre x W1, J pre W1 → pre.length < (rightCells px py qx qy s).length → YieldAt Fence.wide (m - 1) Try.prog l (cellArg x) W1 fun e W' =>
      KeepsTy [2, 23, 58] W1 W' ∧ ((e = .returned (.bool true) ∧ J (pre ++ [x]) W') ∨ (e = .returned (.bool false) ∧ Jx (pre ++ [x]) W')))
    (h0 : J [] W) :
    CallsIn Fence.wide m Try.prog 30 #[.func (.yield l) #[] #[], .pointer (some ⟨bs, 0, none⟩), .pointer (some ⟨bp, 0, none⟩), .pointer (some ⟨bq, 0, none⟩)] W fun e W' =>
      (∃ v, e = .returned v) ∧ Held bs bp bq px py qx qy s W' ∧ (J (rightCells px py qx qy s) W' ∨ ∃ pre, pre <+: rightCells px py qx qy s ∧ Jx pre W') := by
  obtain ⟨s1, s2⟩ := fits_iff.1 hf
  obtain ⟨bx1, bx2, by1, by2⟩ := inB_iff.1 hp
  obtain ⟨cx1, cx2, cy1, cy2⟩ := inB_iff.1 hq
  have v1 := wr (x := px) (by omega)
  have v2 := wr (x := py) (by omega)
  have v3 := wr (x := qx) (by omega)
  have v4 := wr (x := qy) (by omega)
  have v5 := wr (x := qx - px) (by omega)
  have v6 := wr (x := qy - py) (by omega)
  have HP := Lib.hid (show ∀ w, Calls Try.prog 33 #[.agg #[.int .i32 px, .int .i32 py], .int .i64 s] w fun e w' => e = .returned (.agg #[.int .i32 (px / s), .int .i32 (py / s)]) ∧ Fr [] w w' from fun w => of_any w px py s (by unfold I32; omega) (by unfold I32; omega) s1 s2)
  have HQ := Lib.hid (show ∀ w, Calls Try.prog 33 #[.agg #[.int .i32 qx, .int .i32 qy], .int .i64 s] w fun e w' => e = .returned (.agg #[.int .i32 (qx / s), .int .i32 (qy / s)]) ∧ Fr [] w w' from fun w => of_any w qx qy s (by unfold I32; omega) (by unfold I32; omega) s1 s2)
  refine callsIn_of_wp Try.func30 rfl trivial ?_ rfl
  simp only [Try.ntmps30, List.size_toArray, List.length_cons, List.length_nil, Nat.reduceAdd, Nat.reduceSub, Array.replicate_succ, Array.replicate_zero, List.push_toArray, List.append_toArray, List.nil_append, List.cons_append]
  refine wpIn_wide.2 ?_
  have s0 := hh.s.at 0 (v := .int .i64 s) rfl
  have p0 := hh.p.at 0 (v := .int .i32 qx) rfl
  have p1 := hh.p.at 1 (v := .int .i32 qy) rfl
  have q0 := hh.q.at 0 (v := .int .i32 px) rfl
  have q1 := hh.q.at 1 (v := .int .i32 py) rfl
  go_wp2_with fail
  (with_reducible refine (isSize_any _ _).mono ?_)
  rintro e w1 ⟨rfl, rfl⟩
  rw [hf]
  go_wp2_with fail
  (with_reducible refine (in_any _ _ _).mono ?_)
  rintro e w1 ⟨rfl, fr1⟩
  rw [hq]
  have hh1 := hh.fr fr1
  have q0 := hh1.q.at 0 (v := .int .i32 px) rfl
  have q1 := hh1.q.at 1 (v := .int .i32 py) rfl
  have hJ1 := hJ.fr h0 fr1
  go_wp2_with fail
  (with_reducible refine (in_any _ _ _).mono ?_)
  rintro e w2 ⟨rfl, fr2⟩
  rw [hp]
  have hh2 := hh1.fr fr2
  have s0 := hh2.s.at 0 (v := .int .i64 s) rfl
  have p0 := hh2.p.at 0 (v := .int .i32 qx) rfl
  have p1 := hh2.p.at 1 (v := .int .i32 qy) rfl
  have q0 := hh2.q.at 0 (v := .int .i32 px) rfl
  have q1 := hh2.q.at 1 (v := .int .i32 py) rfl
  have hJ2 := hJ.fr hJ1 fr2
  have F2 := (Fr.refl [] W).trans (fr1.trans fr2 (by simp)) (by simp)
  have z0 := hh2.p.free 0
  have z1 := hh2.p.free 1
  have z2 := hh2.q.free 0
  have z3 := hh2.q.free 1
  have hne := hh2.ne
  have hne2 : bq ≠ bp := Ne.symm hne
  have hne3 : bs ≠ bp := hh2.s.ne hh2.p (by decide)
  have hne4 : bs ≠ bq := hh2.s.ne hh2.q (by decide)
  clear hh hh1 h0 hJ1 fr1 fr2
  go_wp2_with fail
  have FS1 := ((Fr.refl [bp] w2).setCell ⟨bp, 0, none⟩ (.int .i32 px) (.inl (by simp))).setCell ⟨bp, 1, none⟩ (.int .i32 py) (.inl (by simp))
  have FS2 := ((Fr.refl [bq] ((w2.setCell ⟨bp, 0, none⟩ (.int .i32 px)).setCell ⟨bp, 1, none⟩ (.int .i32 py))).setCell ⟨bq, 0, none⟩ (.int .i32 qx) (.inl (by simp))).setCell ⟨bq, 1, none⟩ (.int .i32 qy) (.inl (by simp))
  have hJS := hJ.fr1 (hJ.fr1 hJ2 FS1 (by simp)) FS2 (by simp)
  have hhS : Held bs bp bq px py qx qy s ((((w2.setCell ⟨bp, 0, none⟩ (.int .i32 px)).setCell ⟨bp, 1, none⟩ (.int .i32 py)).setCell ⟨bq, 0, none⟩ (.int .i32 qx)).setCell ⟨bq, 1, none⟩ (.int .i32 qy)) :=
    ⟨(((hh2.s.other _ _ hne3).other _ _ hne3).other _ _ hne4).other _ _ hne4, (((hh2.p.set 0 (.int .i32 px)).set 1 (.int .i32 py)).other _ _ hne).other _ _ hne, (((hh2.q.other _ _ hne2).other _ _ hne2).set 0 (.int .i32 qx)).set 1 (.int .i32 qy), hne⟩
  have hsz : ((((w2.setCell ⟨bp, 0, none⟩ (.int .i32 px)).setCell ⟨bp, 1, none⟩ (.int .i32 py)).setCell ⟨bq, 0, none⟩ (.int .i32 qx)).setCell ⟨bq, 1, none⟩ (.int .i32 qy)).heap.size = w2.heap.size := by simp
  generalize (((w2.setCell ⟨bp, 0, none⟩ (.int .i32 px)).setCell ⟨bp, 1, none⟩ (.int .i32 py)).setCell ⟨bq, 0, none⟩ (.int .i32 qx)).setCell ⟨bq, 1, none⟩ (.int .i32 qy) = wS at *
  generalize hw3 : World.alloc wS _ = w3
  obtain ⟨z, hz⟩ : ∃ z, z = w2.heap.size := ⟨_, rfl⟩
  rw [← hz]
  rw [← hz] at hsz
  have hl3 : Blk w3 z #[.int .i64 px, .int .i64 py, .int .i64 (qx - px), .int .i64 (qy - py), .int .i64 s] 58 := by rw [← hsz, ← hw3]; exact Blk.new _ _ _
  clear hsz
  have f3 : Fr [] wS w3 := by rw [← hw3]; exact (Fr.refl _ _).alloc _
  have hh3 := hhS.fr f3
  have hJ3 := hJ.fr hJS f3
  have S3 := hh3.cells
  have HH := Lib.hid (And.intro hh3 (And.intro hJ3 hl3))
  clear hh2 hJ2 F2 s0 p0 p1 q0 q1 hh3 hJ3 hl3 f3 hw3 hz z0 z1 z2 z3 hne hne2 hne3 hne4 hhS hJS FS1 FS2
  have hfd := field33
  go_region_held3 (fun w' => w'.cell? ⟨bs, 0, none⟩ = some (.int .i64 s) ∧ w'.cell? ⟨bp, 0, none⟩ = some (.int .i32 px) ∧ w'.cell? ⟨bp, 1, none⟩ = some (.int .i32 py) ∧ w'.cell? ⟨bq, 0, none⟩ = some (.int .i32 qx) ∧ w'.cell? ⟨bq, 1, none⟩ = some (.int .i32 qy)) (first | exact S3 | exact S4 | exact S5)
    (first
      | (go_at_call_of 33 (Value.int IntKind.i32 px); refine (HP.out _).mono ?_; rintro e w4 ⟨rfl, f4⟩; have S4 := ((HH.out.1.fr (Fr.refl [] w3).drew).fr f4).cells)
      | (go_at_call_of 33 (Value.int IntKind.i32 qx); refine (HQ.out _).mono ?_; rintro e w5 ⟨rfl, f5⟩; have S5 := (((HH.out.1.fr (Fr.refl [] w3).drew).fr f4).fr f5).cells))
  simp only [Exit.then]
  obtain ⟨hh3, hJ3, hl3⟩ := HH.out
  have F5 : Fr [] w3 w5 := (((Fr.refl [] w3).drew).trans f4 (by simp)).trans f5 (by simp)
  have hh5 := hh3.fr F5
  have hJ5 := hJ.fr hJ3 F5
  have hl5 := F5.blk hl3 (by simp)
  have hx1 := ediv_bd px s 1073741823 (by omega) (by omega) (by omega) (by omega)
  have hx2 := ediv_bd qx s 1073741823 (by omega) (by omega) (by omega) (by omega)
  have hx3 : px / s ≤ qx / s := Int.ediv_le_ediv (by omega) (by omega)
  clear S3 S4 S5 HH hh3 hJ3 hl3 f4 f5 F5 HP HQ hfd
  go_wp2_with fail
  go_loopw [8] (fun i wr => ∃ j : Nat, i = .int .i32 (px / s + (j : Int)) ∧ j ≤ cols px qx s ∧ J (rowsUp (colOf px py qx qy s) j) wr ∧ Held bs bp bq px py qx qy s wr ∧ Blk wr z #[.int .i64 px, .int .i64 py, .int .i64 (qx - px), .int .i64 (qy - py), .int .i64 s] 58) (fun i _ => (qx / s + 1 - intOf i).toNat)
  case atStart => exact ⟨0, by go_num, Nat.zero_le _, hJ5, hh5, hl5⟩
  case round =>
    obtain ⟨j, rfl, hj, hJr, hhr, hlr⟩ := hrel
    obtain ⟨wo, rfl⟩ : ∃ wo : World, wo = wr := ⟨_, rfl⟩
    have l0 := hlr.at 0 (v := .int .i64 px) rfl
    have l1 := hlr.at 1 (v := .int .i64 py) rfl
    have l2 := hlr.at 2 (v := .int .i64 (qx - px)) rfl
    have l3 := hlr.at 3 (v := .int .i64 (qy - py)) rfl
    have l4 := hlr.at 4 (v := .int .i64 s) rfl
    by_cases hlt : j < cols px qx s
    · have hle : px / s + (j : Int) ≤ qx / s := by unfold cols at hlt; omega
      have hwc := wr (x := px / s + (j : Int)) (by omega)
      have HR := rows_any wo px py (qx - px) (qy - py) s (px / s + (j : Int)) ⟨bx1, bx2⟩ ⟨by1, by2⟩ (by omega) (by omega) (by omega) ⟨s1, s2⟩ ⟨by omega, by rw [show px + (qx - px) = qx by omega]; exact hle⟩
      obtain ⟨k1, k2, k3⟩ := col_bd (px := px) (py := py) (dx := qx - px) (dy := qy - py) (s := s) (c := px / s + (j : Int)) ⟨by1, by2⟩ (by omega) (by omega) ⟨s1, s2⟩ ⟨by omega, by rw [show px + (qx - px) = qx by omega]; exact hle⟩
      have hfj : colOf px py qx qy s j = colCells (colLow px py (qx - px) (qy - py) s (px / s + (j : Int))) (colHigh px py (qx - px) (qy - py) s (px / s + (j : Int))) (px / s + (j : Int)) := rfl
      obtain ⟨low, hlow⟩ : ∃ z, z = colLow px py (qx - px) (qy - py) s (px / s + (j : Int)) := ⟨_, rfl⟩
      obtain ⟨high, hhigh⟩ : ∃ z, z = colHigh px py (qx - px) (qy - py) s (px / s + (j : Int)) := ⟨_, rfl⟩
      simp only [← hlow, ← hhigh] at HR k1 k2 k3 hfj
      clear hlow hhigh
      unfold ln at HR
      have HK := Lib.hid (And.intro hJr (And.intro hhr (And.intro hlr hfj)))
      have HR := Lib.hid HR
      clear hJr hhr hlr hfj
      go_wp2_with fail
      (with_reducible refine HR.out.mono ?_)
      rintro e w6 ⟨rfl, f6⟩
      have HF6 := Lib.hid f6
      clear f6
      go_wp2_with fail
      obtain ⟨hJr, hhr, hlr, hfj⟩ := HK.out
      have f6 := HF6.out
      have hJ6 := hJ.fr hJr f6
      have hh6 := hhr.fr f6
      have hl6 := f6.blk hlr (by simp)
      obtain ⟨n, hn⟩ : ∃ n, n = (high + 1 - low).toNat := ⟨_, rfl⟩
      have hnh : (n : Int) = high + 1 - low := by omega
      have HN := Lib.hid hn
      have hn1 : (n : Int) ≤ high + 1 - low := by omega
      have hn2 : high + 1 - low ≤ (n : Int) := by omega
      clear hJr hhr hlr f6 hn hnh l0 l1 l2 l3 l4
      have HFJ := Lib.hid hfj
      clear hfj
      go_loopw [11] (fun y wr => ∃ i : Nat, y = .int .i64 (low + (i : Int)) ∧ i ≤ n ∧ J (rowsUp (colOf px py qx qy s) j ++ (colOf px py qx qy s j).take i) wr ∧ Held bs bp bq px py qx qy s wr ∧ Blk wr z #[.int .i64 px, .int .i64 py, .int .i64 (qx - px), .int .i64 (qy - py), .int .i64 s] 58) (fun y _ => (high + 1 - intOf y).toNat)
      case atStart => exact ⟨0, by go_num, Nat.zero_le _, by simpa using hJ6, hh6, hl6⟩
      case round =>
        obtain ⟨i, rfl, hi, hJi, hhi, hli⟩ := hrel
        obtain ⟨wi, rfl⟩ : ∃ wi : World, wi = wr := ⟨_, rfl⟩
        by_cases hlt2 : i < n
        · have hle2 : low + (i : Int) ≤ high := by omega
          have hsn : rowsUp (colOf px py qx qy s) j ++ (colOf px py qx qy s j).take i ++ [(px / s + (j : Int), low + (i : Int))] = rowsUp (colOf px py qx qy s) j ++ (colOf px py qx qy s j).take (i + 1) := by
            rw [HFJ.out, colCells_take _ _ _ _ (by rw [← HN.out]; exact hlt2), List.append_assoc]
          obtain ⟨f, tm, asg, body, hy, hR⟩ := hY _ (px / s + (j : Int), low + (i : Int)) wi hJi (by
            have := (rowsUp_take (colOf px py qx qy s) hlt (i + 1)).length_le
            rw [← hsn] at this
            simp only [List.length_append, List.length_cons, List.length_nil] at this ⊢
            exact this)
          rw [hsn] at hR
          simp only [cellArg, pt] at hy
          have HR := Lib.hid hR
          have HY := Lib.hid hY
          have HH := Lib.hid (And.intro hhi hli)
          have HS := Lib.hid hsn
          clear hR hY hJi hhi hli hsn
          refine (wpIn_wide (n := m)).1 ?_
          gi_wp2
          refine ⟨fun h => by simp [Fence.wide] at h, HR.out.mono ?_⟩
          rintro e W3 ⟨hk3, (⟨rfl, hJ3⟩ | ⟨rfl, hJx3⟩)⟩
          · gi_wp2
            exact ⟨⟨i + 1, by go_num, by omega, hJ3, HH.out.1.keeps hk3, hk3 _ _ _ (by simp) HH.out.2⟩, by simp [intOf]; omega⟩
          · gi_wp2
            refine bodyPost_ret (results_none rfl _ _ _) rfl ⟨⟨_, rfl⟩, HH.out.1.keeps hk3, .inr ⟨_, ?_, hJx3⟩⟩
            exact rowsUp_take _ hlt _
        · obtain rfl : i = n := by omega
          have hJn : J (rowsUp (colOf px py qx qy s) (j + 1)) wi := by
            rw [rowsUp_succ]
            have : (colOf px py qx qy s j).take i = colOf px py qx qy s j := by rw [HFJ.out, HN.out]; exact colCells_all _ _ _
            rwa [this] at hJi
          clear hJi
          have hgt : high < low + (i : Int) := by omega
          have hwi : IntKind.i32.wrap (px / s + (j : Int) + 1) = px / s + (j : Int) + 1 := by rw [IntKind.wrap_i32]; omega
          go_wp2
          exact ⟨⟨j + 1, by go_num, by omega, hJn, hhi, hli⟩, by simp [intOf]; omega⟩
    · obtain rfl : j = cols px qx s := by omega
      have hgt : qx / s < px / s + (cols px qx s : Int) := by unfold cols; omega
      have hJr' : J (rightCells px py qx qy s) wo := hJr
      clear hJr
      generalize cols px qx s = c at *
      go_wp2
      go_end0
      exact ⟨⟨_, rfl⟩, hhr, .inl hJr'⟩


end Go.Proofs.Ythagbhiblncpkaa
