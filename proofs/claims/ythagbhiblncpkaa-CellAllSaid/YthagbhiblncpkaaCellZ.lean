/-
  CellCovers: of any point its cell, of any box the first 401 cells, of any cell its points. For every input.
-/
import Derived.Test.YthagbhiblncpkaaCellY
import Derived.Test.YthagbhiblncpkaaCellW
import Derived.Test.YthagbhiblncpkaaCellM
import Derived.Deep.DeepCutAuto
namespace Go.Proofs.Ythagbhiblncpkaa
open Go.RowKit Go.Shelf Go.ChangeShapes Go.WideShapes Go.ChangeAt
set_option linter.unusedVariables false
attribute [local go_sem] Oper.semAt_some

/-- An operation whose guard lets it. -/
theorem wpOp_wanted {P : Program} {ops : Array Oper} {Q : Exit → Act → World → Prop} {i : Nat} {o : Oper} {K : Act → World → Prop} {a : Act} {w : World} (hi : ops[i]? = some o) (hw : Region.wanted o (yielded ops a.tmps) = true) (h : ∀ K' : Act → World → Prop, (∀ a w, K a w → K' a w) → o.wp P a w K' Q) : wpOp P ops Q i K a w := by
  unfold wpOp
  rw [hi]
  simp only [hw, if_true]
  exact .inl (h K (fun _ _ h => h))
theorem ofV_shape (x y s : Int) : ∃ u v e, ofV x y s = Value.tuple #[.agg #[.int .i32 u, .int .i32 v], .int .i64 e] := by
  unfold ofV; split
  · exact ⟨_, _, _, rfl⟩
  · exact ⟨_, _, _, rfl⟩
theorem sqV_shape (x y s : Int) : ∃ k0 k1 k2 k3 o, sqV x y s = Value.tuple #[.agg #[.int .i32 k0, .int .i32 k1, .int .i32 k2, .int .i32 k3], .bool o] := by
  unfold sqV; split
  · exact ⟨_, _, _, _, _, rfl⟩
  · exact ⟨_, _, _, _, _, rfl⟩
theorem same33 (u v : Int) (w : World) : (binOp .neq 33 (.agg #[.int .i32 u, .int .i32 v]) (.agg #[.int .i32 u, .int .i32 v])).run Try.prog w = .ok (.bool false) w := by
  rw [neq33]; simp
theorem same39 (k0 k1 k2 k3 : Int) (w : World) : (binOp .neq 39 (.agg #[.int .i32 k0, .int .i32 k1, .int .i32 k2, .int .i32 k3]) (.agg #[.int .i32 k0, .int .i32 k1, .int .i32 k2, .int .i32 k3])).run Try.prog w = .ok (.bool false) w := by
  simp [go_sem]
theorem same4 (o : Bool) (w : World) : (binOp .neq 4 (.bool o) (.bool o)).run Try.prog w = .ok (.bool false) w := by
  cases o <;> simp [go_sem]
theorem same42 (e : Int) (w : World) : (binOp .neq 42 (.int .i64 e) (.int .i64 e)).run Try.prog w = .ok (.bool false) w := by
  simp [go_sem]
theorem same2 (e : Int) (w : World) : (binOp .neq 2 (.int .i64 e) (.int .i64 e)).run Try.prog w = .ok (.bool false) w := by
  simp [go_sem]
attribute [local go_sem high] same33 same39 same4 same42 same2

structure Cmp (t : Value → Value → Value → Value → Value → Value → Value → Value → Value → Value → Value → Value → Value → Value → Value → Value → Value → Value → Value → Value → Value → Value → Value → Value → Value → Value → Value →  Array Value) (w1 : World) (u v er k0 k1 k2 k3 : Int) (ok : Bool) (a b c d s n : Int) (p : Nat → Prop) (x : Act) (w : World) : Prop where
  ex : ∃ x0 x1 x2 x3 x4 x5 x6 x7 x8 x9 x10 x11 x12 x13 x14 x15 x16 x17 x18 x19 x20 x21 x22 x23 x24 x25 x26, x = { tmps := t x0 x1 x2 x3 x4 x5 x6 x7 x8 x9 x10 x11 x12 x13 x14 x15 x16 x17 x18 x19 x20 x21 x22 x23 x24 x25 x26, defers := [] } ∧ (p 0 → x0 = .agg #[.int .i32 u, .int .i32 v]) ∧ (p 1 → x1 = .agg #[.int .i32 u, .int .i32 v]) ∧ (p 2 → x2 = .bool false) ∧ (p 3 → x3 = .bool false) ∧ (p 4 → x4 = .int .i64 er) ∧ (p 5 → x5 = .int .i64 er) ∧ (p 6 → x6 = .bool false) ∧ (p 7 → x7 = .bool false) ∧ (p 8 → x8 = .bool false) ∧ (p 9 → x9 = .agg #[.int .i32 k0, .int .i32 k1, .int .i32 k2, .int .i32 k3]) ∧ (p 10 → x10 = .agg #[.int .i32 k0, .int .i32 k1, .int .i32 k2, .int .i32 k3]) ∧ (p 11 → x11 = .bool false) ∧ (p 12 → x12 = .bool false) ∧ (p 13 → x13 = .bool false) ∧ (p 14 → x14 = .bool ok) ∧ (p 15 → x15 = .bool ok) ∧ (p 16 → x16 = .bool false) ∧ (p 17 → x17 = .bool false) ∧ (p 18 → x18 = .bool false) ∧ (p 19 → x19 = .agg #[.int .i32 a, .int .i32 b, .int .i32 c, .int .i32 d]) ∧ (p 20 → x20 = .int .i64 s) ∧ (p 21 → x21 = .int .i64 n) ∧ (p 22 → x22 = .agg #[.int .i32 a, .int .i32 b, .int .i32 c, .int .i32 d]) ∧ (p 23 → x23 = .int .i64 s) ∧ (p 24 → x24 = .int .i64 n) ∧ (p 25 → x25 = .bool false) ∧ (p 26 → x26 = .bool false)
  fr : Fr [] w1 w

theorem four_of {α : Type} {l : List α} (h : l.length = 4) : ∃ a b c d, l = [a, b, c, d] := by
  match l, h with
  | [a, b, c, d], _ => exact ⟨a, b, c, d, rfl⟩
theorem ten_of {α : Type} {l : List α} (h : l.length = 10) : ∃ a b c d e f g i j k, l = [a, b, c, d, e, f, g, i, j, k] := by
  match l, h with
  | [a, b, c, d, e, f, g, i, j, k], _ => exact ⟨a, b, c, d, e, f, g, i, j, k, rfl⟩
theorem cells39 : Try.prog.cellsOf 39 = 4 := by kernel_rfl
theorem cells41 : Try.prog.cellsOf 41 = 10 := by kernel_rfl
theorem read_box {w : World} {H : Type} {enc : TypeId × Value → H} {fuel : Nat} {cs : List Value} {x : DataW H × List MemPlace} (h : DataW.trod enc Try.prog w 0 (fun _ => true) true fuel 39 cs = some x) :
    ∃ a b c d : Int, cs = [.int .i32 a, .int .i32 b, .int .i32 c, .int .i32 d] ∧ I32 a ∧ I32 b ∧ I32 c ∧ I32 d := by
  obtain ⟨xs, m, _, _, hl, hlen, hf⟩ := DataW.trod_struct Try.underlying39 h
  rw [cells39] at hl
  obtain ⟨c0, c1, c2, c3, rfl⟩ := four_of hl
  obtain ⟨y0, y1, rfl⟩ := two_of hlen
  obtain ⟨a, b, h0, i0, i1⟩ := read_pt (hf 0 _ rfl)
  obtain ⟨c, d, h1, i2, i3⟩ := read_pt (hf 1 _ rfl)
  have q0 : [c0, c1] = [Value.int .i32 a, .int .i32 b] := h0
  have q1 : [c2, c3] = [Value.int .i32 c, .int .i32 d] := h1
  cases q0; cases q1
  exact ⟨a, b, c, d, rfl, i0, i1, i2, i3⟩
theorem read_ask {w : World} {H : Type} {enc : TypeId × Value → H} {fuel : Nat} {cs : List Value} {x : DataW H × List MemPlace} (h : DataW.trod enc Try.prog w 0 (fun _ => true) true fuel 41 cs = some x) :
    ∃ px py qx qy a b c d ex ey : Int, cs = [.int .i32 px, .int .i32 py, .int .i32 qx, .int .i32 qy, .int .i32 a, .int .i32 b, .int .i32 c, .int .i32 d, .int .i32 ex, .int .i32 ey] ∧ I32 px ∧ I32 py ∧ I32 qx ∧ I32 qy ∧ I32 a ∧ I32 b ∧ I32 c ∧ I32 d ∧ I32 ex ∧ I32 ey := by
  obtain ⟨xs, m, _, _, hl, hlen, hf⟩ := DataW.trod_struct Try.underlying41 h
  rw [cells41] at hl
  obtain ⟨c0, c1, c2, c3, c4, c5, c6, c7, c8, c9, rfl⟩ := ten_of hl
  obtain ⟨y0, y1, y2, y3, rfl⟩ := four_of hlen
  obtain ⟨px, py, h0, i0, i1⟩ := read_pt (hf 0 _ rfl)
  obtain ⟨qx, qy, h1, i2, i3⟩ := read_pt (hf 1 _ rfl)
  obtain ⟨a, b, c, d, h2, i4, i5, i6, i7⟩ := read_box (hf 2 _ rfl)
  obtain ⟨ex, ey, h3, i8, i9⟩ := read_cell (hf 3 _ rfl)
  have q0 : [c0, c1] = [Value.int .i32 px, .int .i32 py] := h0
  have q1 : [c2, c3] = [Value.int .i32 qx, .int .i32 qy] := h1
  have q2 : [c4, c5, c6, c7] = [Value.int .i32 a, .int .i32 b, .int .i32 c, .int .i32 d] := h2
  have q3 : [c8, c9] = [Value.int .i32 ex, .int .i32 ey] := h3
  cases q0; cases q1; cases q2; cases q3
  exact ⟨px, py, qx, qy, a, b, c, d, ex, ey, rfl, i0, i1, i2, i3, i4, i5, i6, i7, i8, i9⟩

namespace cellCovers
set_option maxRecDepth 100000 in
set_option maxHeartbeats 8000000 in
theorem walk (w : World) (px py qx qy a b c d ex ey s : Int) (hpx : I32 px) (hpy : I32 py) (hex : I32 ex) (hey : I32 ey) : Calls Try.prog 5 #[.agg #[.int .i32 px, .int .i32 py, .int .i32 qx, .int .i32 qy, .int .i32 a, .int .i32 b, .int .i32 c, .int .i32 d, .int .i32 ex, .int .i32 ey], .int .i64 s] w fun e w' => e = .returned (.bool true) ∧ Fr [] w w' := by
  obtain ⟨L, hL⟩ : ∃ L, (covSeq a b c d s).take 401 = L := ⟨_, rfl⟩
  have hlen : L.length ≤ 4611686018427387904 := by rw [← hL]; simp; omega
  have HL := Lib.hid hL
  have HN := Lib.hid hlen
  clear hL hlen
  obtain ⟨u, v, er, ho⟩ := ofV_shape px py s
  obtain ⟨k0, k1, k2, k3, ok, hs⟩ := sqV_shape ex ey s
  have o1 := fun w => Of_any w px py s hpx hpy
  have o2 := fun w => refOf_any w px py s hpx hpy
  have o3 := fun w => square_any w ex ey s hex hey
  have o4 := fun w => refSquare_any w ex ey s hex hey
  simp only [ho] at o1 o2
  simp only [hs] at o3 o4
  unfold pt at o1 o2 o3 o4
  have O1 := Lib.hid o1
  have O2 := Lib.hid o2
  have O3 := Lib.hid o3
  have O4 := Lib.hid o4
  obtain ⟨n, hn⟩ : ∃ n, n = cnt a b c d s := ⟨_, rfl⟩
  have HC := Lib.hid (fun w => show Calls Try.prog 20 #[.agg #[.int .i32 a, .int .i32 b, .int .i32 c, .int .i32 d], .int .i64 s] w fun e w' => e = .returned (.int .i64 n) ∧ Fr [] w w' from hn ▸ count_any w a b c d s)
  have HD := Lib.hid (fun w => show Calls Try.prog 21 #[.agg #[.int .i32 a, .int .i32 b, .int .i32 c, .int .i32 d], .int .i64 s] w fun e w' => e = .returned (.int .i64 n) ∧ Fr [] w w' from hn ▸ refCount_any w a b c d s)
  clear o1 o2 o3 o4 ho hs hn hpx hpy hex hey
  have hA := Blk.new w #[.int .i32 px, .int .i32 py, .int .i32 qx, .int .i32 qy, .int .i32 a, .int .i32 b, .int .i32 c, .int .i32 d, .int .i32 ex, .int .i32 ey] 41
  have FA : Fr [] w ((((w.alloc (.cells #[.int .i32 px, .int .i32 py, .int .i32 qx, .int .i32 qy, .int .i32 a, .int .i32 b, .int .i32 c, .int .i32 d, .int .i32 ex, .int .i32 ey] 41)).alloc (.cells #[.int .i32 px, .int .i32 py] 23)).alloc (.cells #[.int .i32 a, .int .i32 b, .int .i32 c, .int .i32 d] 39)).alloc (.cells #[.int .i32 ex, .int .i32 ey] 33)) := ((((Fr.refl [] w).alloc _).alloc _).alloc _).alloc _
  have h5 := ((Blk.new (w.alloc (.cells #[.int .i32 px, .int .i32 py, .int .i32 qx, .int .i32 qy, .int .i32 a, .int .i32 b, .int .i32 c, .int .i32 d, .int .i32 ex, .int .i32 ey] 41)) #[.int .i32 px, .int .i32 py] 23).alloc (.cells #[.int .i32 a, .int .i32 b, .int .i32 c, .int .i32 d] 39)).alloc (.cells #[.int .i32 ex, .int .i32 ey] 33)
  have h6 := (Blk.new ((w.alloc (.cells #[.int .i32 px, .int .i32 py, .int .i32 qx, .int .i32 qy, .int .i32 a, .int .i32 b, .int .i32 c, .int .i32 d, .int .i32 ex, .int .i32 ey] 41)).alloc (.cells #[.int .i32 px, .int .i32 py] 23)) #[.int .i32 a, .int .i32 b, .int .i32 c, .int .i32 d] 39).alloc (.cells #[.int .i32 ex, .int .i32 ey] 33)
  have h7 := Blk.new (((w.alloc (.cells #[.int .i32 px, .int .i32 py, .int .i32 qx, .int .i32 qy, .int .i32 a, .int .i32 b, .int .i32 c, .int .i32 d, .int .i32 ex, .int .i32 ey] 41)).alloc (.cells #[.int .i32 px, .int .i32 py] 23)).alloc (.cells #[.int .i32 a, .int .i32 b, .int .i32 c, .int .i32 d] 39)) #[.int .i32 ex, .int .i32 ey] 33
  obtain ⟨z5, e5⟩ : ∃ z, z = (w.alloc (.cells #[.int .i32 px, .int .i32 py, .int .i32 qx, .int .i32 qy, .int .i32 a, .int .i32 b, .int .i32 c, .int .i32 d, .int .i32 ex, .int .i32 ey] 41)).heap.size := ⟨_, rfl⟩
  obtain ⟨z6, e6⟩ : ∃ z, z = ((w.alloc (.cells #[.int .i32 px, .int .i32 py, .int .i32 qx, .int .i32 qy, .int .i32 a, .int .i32 b, .int .i32 c, .int .i32 d, .int .i32 ex, .int .i32 ey] 41)).alloc (.cells #[.int .i32 px, .int .i32 py] 23)).heap.size := ⟨_, rfl⟩
  obtain ⟨z7, e7⟩ : ∃ z, z = (((w.alloc (.cells #[.int .i32 px, .int .i32 py, .int .i32 qx, .int .i32 qy, .int .i32 a, .int .i32 b, .int .i32 c, .int .i32 d, .int .i32 ex, .int .i32 ey] 41)).alloc (.cells #[.int .i32 px, .int .i32 py] 23)).alloc (.cells #[.int .i32 a, .int .i32 b, .int .i32 c, .int .i32 d] 39)).heap.size := ⟨_, rfl⟩
  rw [← e5] at h5
  rw [← e6] at h6
  rw [← e7] at h7
  simp at e5 e6 e7
  have HZ := Lib.hid (And.intro e5 (And.intro e6 e7))
  have HH := Lib.hid (And.intro FA (And.intro h5 (And.intro h6 h7)))
  have a0 := hA.at 0 (v := .int .i32 px) rfl; have a1 := hA.at 1 (v := .int .i32 py) rfl; have a2 := hA.at 2 (v := .int .i32 qx) rfl; have a3 := hA.at 3 (v := .int .i32 qy) rfl; have a4 := hA.at 4 (v := .int .i32 a) rfl; have a5 := hA.at 5 (v := .int .i32 b) rfl; have a6 := hA.at 6 (v := .int .i32 c) rfl; have a7 := hA.at 7 (v := .int .i32 d) rfl; have a8 := hA.at 8 (v := .int .i32 ex) rfl; have a9 := hA.at 9 (v := .int .i32 ey) rfl
  clear FA h5 h6 h7 hA e5 e6 e7
  go_enter Try.func5, Try.ntmps5
  go_wp2_with fail
  obtain ⟨e5, e6, e7⟩ := HZ.out
  rw [show w.heap.size + 1 + 1 + 1 = z7 by omega, show w.heap.size + 1 + 1 = z6 by omega, show w.heap.size + 1 = z5 by omega]
  clear e5 e6 e7 HZ a0 a1 a2 a3 a4 a5 a6 a7 a8 a9
  (with_reducible refine (O1.out _).mono ?_)
  rintro e w1 ⟨rfl, f1⟩
  have h5 := f1.blk HH.out.2.1 (by simp)
  have h8 := Blk.new w1 #[.int .i32 u, .int .i32 v] 33
  have HA := Lib.hid (And.intro ((HH.out.1.trans f1 (by simp)).alloc (.cells #[.int .i32 u, .int .i32 v] 33)) (And.intro (h5.alloc (.cells #[.int .i32 u, .int .i32 v] 33)) (And.intro ((f1.blk HH.out.2.2.1 (by simp)).alloc (.cells #[.int .i32 u, .int .i32 v] 33)) (And.intro ((f1.blk HH.out.2.2.2 (by simp)).alloc (.cells #[.int .i32 u, .int .i32 v] 33)) h8))))
  have a0 := HA.out.2.1.at 0 (v := .int .i32 px) rfl
  have a1 := HA.out.2.1.at 1 (v := .int .i32 py) rfl
  clear f1 h5 h8 HH
  obtain ⟨z8, e8⟩ : ∃ z, z = w1.heap.size := ⟨_, rfl⟩
  go_wp2_with fail
  simp only [← e8] at *
  clear e8
  generalize w1.alloc _ = wa at *
  clear a0 a1
  (with_reducible refine (O2.out _).mono ?_)
  rintro e w2 ⟨rfl, f2⟩
  have HB := Lib.hid (And.intro ((HA.out.1.trans f2 (by simp)).alloc (.cells #[.int .i32 u, .int .i32 v] 33)) (And.intro ((f2.blk HA.out.2.2.1 (by simp)).alloc (.cells #[.int .i32 u, .int .i32 v] 33)) (And.intro ((f2.blk HA.out.2.2.2.1 (by simp)).alloc (.cells #[.int .i32 u, .int .i32 v] 33)) (And.intro ((f2.blk HA.out.2.2.2.2 (by simp)).alloc (.cells #[.int .i32 u, .int .i32 v] 33)) (Blk.new w2 #[.int .i32 u, .int .i32 v] 33)))))
  have a0 := HB.out.2.2.1.at 0 (v := .int .i32 ex) rfl
  have a1 := HB.out.2.2.1.at 1 (v := .int .i32 ey) rfl
  clear f2 HA
  obtain ⟨z10, e10⟩ : ∃ z, z = w2.heap.size := ⟨_, rfl⟩
  go_wp2_with fail
  simp only [← e10] at *
  clear e10
  generalize w2.alloc _ = wb at *
  clear a0 a1
  (with_reducible refine (O3.out _).mono ?_)
  rintro e w3 ⟨rfl, f3⟩
  have HA := Lib.hid (And.intro ((HB.out.1.trans f3 (by simp)).alloc (.cells #[.int .i32 k0, .int .i32 k1, .int .i32 k2, .int .i32 k3] 39)) (And.intro ((f3.blk HB.out.2.1 (by simp)).alloc (.cells #[.int .i32 k0, .int .i32 k1, .int .i32 k2, .int .i32 k3] 39)) (And.intro ((f3.blk HB.out.2.2.1 (by simp)).alloc (.cells #[.int .i32 k0, .int .i32 k1, .int .i32 k2, .int .i32 k3] 39)) (And.intro ((f3.blk HB.out.2.2.2.1 (by simp)).alloc (.cells #[.int .i32 k0, .int .i32 k1, .int .i32 k2, .int .i32 k3] 39)) (And.intro ((f3.blk HB.out.2.2.2.2 (by simp)).alloc (.cells #[.int .i32 k0, .int .i32 k1, .int .i32 k2, .int .i32 k3] 39)) (Blk.new w3 #[.int .i32 k0, .int .i32 k1, .int .i32 k2, .int .i32 k3] 39))))))
  have a0 := HA.out.2.2.1.at 0 (v := .int .i32 ex) rfl
  have a1 := HA.out.2.2.1.at 1 (v := .int .i32 ey) rfl
  clear f3 HB
  obtain ⟨z12, e12⟩ : ∃ z, z = w3.heap.size := ⟨_, rfl⟩
  go_wp2_with fail
  simp only [← e12] at *
  clear e12
  generalize w3.alloc _ = wc at *
  clear a0 a1
  (with_reducible refine (O4.out _).mono ?_)
  rintro e w4 ⟨rfl, f4⟩
  have F5 := (HA.out.1.trans f4 (by simp)).alloc (.cells #[.int .i32 k0, .int .i32 k1, .int .i32 k2, .int .i32 k3] 39)
  have m6 := (f4.blk HA.out.2.1 (by simp)).alloc (.cells #[.int .i32 k0, .int .i32 k1, .int .i32 k2, .int .i32 k3] 39)
  have m8 := (f4.blk HA.out.2.2.2.1 (by simp)).alloc (.cells #[.int .i32 k0, .int .i32 k1, .int .i32 k2, .int .i32 k3] 39)
  have m10 := (f4.blk HA.out.2.2.2.2.1 (by simp)).alloc (.cells #[.int .i32 k0, .int .i32 k1, .int .i32 k2, .int .i32 k3] 39)
  have m12 := (f4.blk HA.out.2.2.2.2.2 (by simp)).alloc (.cells #[.int .i32 k0, .int .i32 k1, .int .i32 k2, .int .i32 k3] 39)
  have m14 := Blk.new w4 #[.int .i32 k0, .int .i32 k1, .int .i32 k2, .int .i32 k3] 39
  have HB := Lib.hid (And.intro F5 (And.intro m6 (And.intro m8 (And.intro m10 (And.intro m12 m14)))))
  clear f4 HA F5 m6 m8 m10 m12 m14
  obtain ⟨z14, e14⟩ : ∃ z, z = w4.heap.size := ⟨_, rfl⟩
  go_upto_region 8 with fail
  simp only [← e14] at *
  clear e14
  generalize w4.alloc _ = w5 at *
  go_cut [74] (fun s74 wx => s74 = .bool false ∧ Fr [] w5 wx)
  case first =>
    refine region_inv (by kernel_rfl) (by kernel_rfl) (Cmp (fun x0 x1 x2 x3 x4 x5 x6 x7 x8 x9 x10 x11 x12 x13 x14 x15 x16 x17 x18 x19 x20 x21 x22 x23 x24 x25 x26 => #[.agg #[.int .i32 px, .int .i32 py, .int .i32 qx, .int .i32 qy, .int .i32 a, .int .i32 b, .int .i32 c, .int .i32 d, .int .i32 ex, .int .i32 ey], .int .i64 s, .pointer (some ⟨w.heap.size, 0, none⟩), undef, .bool false, .pointer (some ⟨z5, 0, none⟩), .pointer (some ⟨z6, 0, none⟩), .pointer (some ⟨z7, 0, none⟩), .pointer (some ⟨z8, 0, none⟩), .int .i64 er, .pointer (some ⟨z10, 0, none⟩), .int .i64 er, .pointer (some ⟨z12, 0, none⟩), .bool ok, .pointer (some ⟨z14, 0, none⟩), .bool ok, undef, undef, .pointer (some ⟨w.heap.size, 0, none⟩), .agg #[.int .i32 px, .int .i32 py], .pointer (some ⟨w.heap.size, 4, none⟩), .agg #[.int .i32 a, .int .i32 b, .int .i32 c, .int .i32 d], .pointer (some ⟨w.heap.size, 8, none⟩), .agg #[.int .i32 ex, .int .i32 ey], .tuple #[.agg #[.int .i32 u, .int .i32 v], .int .i64 er], .agg #[.int .i32 px, .int .i32 py], .int .i64 s, .tuple #[.agg #[.int .i32 u, .int .i32 v], .int .i64 er], .agg #[.int .i32 u, .int .i32 v], .int .i64 er, .tuple #[.agg #[.int .i32 u, .int .i32 v], .int .i64 er], .agg #[.int .i32 px, .int .i32 py], .int .i64 s, .tuple #[.agg #[.int .i32 u, .int .i32 v], .int .i64 er], .agg #[.int .i32 u, .int .i32 v], .int .i64 er, .tuple #[.agg #[.int .i32 k0, .int .i32 k1, .int .i32 k2, .int .i32 k3], .bool ok], .agg #[.int .i32 ex, .int .i32 ey], .int .i64 s, .tuple #[.agg #[.int .i32 k0, .int .i32 k1, .int .i32 k2, .int .i32 k3], .bool ok], .agg #[.int .i32 k0, .int .i32 k1, .int .i32 k2, .int .i32 k3], .bool ok, .tuple #[.agg #[.int .i32 k0, .int .i32 k1, .int .i32 k2, .int .i32 k3], .bool ok], .agg #[.int .i32 ex, .int .i32 ey], .int .i64 s, .tuple #[.agg #[.int .i32 k0, .int .i32 k1, .int .i32 k2, .int .i32 k3], .bool ok], .agg #[.int .i32 k0, .int .i32 k1, .int .i32 k2, .int .i32 k3], .bool ok, x0, x1, x2, x3, x4, x5, x6, x7, x8, x9, x10, x11, x12, x13, x14, x15, x16, x17, x18, x19, x20, x21, x22, x23, x24, x25, x26, undef, undef, undef, undef, undef, undef, undef, undef, undef, undef, undef, undef, undef, undef, undef, undef, undef, undef, undef]) w5 u v er k0 k1 k2 k3 ok a b c d s n) ?_ ?_ ?_
    · refine ⟨⟨undef, undef, undef, undef, undef, undef, undef, undef, undef, undef, undef, undef, undef, undef, undef, undef, undef, undef, undef, undef, undef, undef, undef, undef, undef, undef, undef, rfl, ?_⟩, (Fr.refl _ _).drew⟩
      simp
    · intro p x W i hi hnp hd hI
      obtain ⟨⟨x0, x1, x2, x3, x4, x5, x6, x7, x8, x9, x10, x11, x12, x13, x14, x15, x16, x17, x18, x19, x20, x21, x22, x23, x24, x25, x26, rfl, g0, g1, g2, g3, g4, g5, g6, g7, g8, g9, g10, g11, g12, g13, g14, g15, g16, g17, g18, g19, g20, g21, g22, g23, g24, g25, g26⟩, hfr⟩ := hI
      have hcases : i = 0 ∨ i = 1 ∨ i = 2 ∨ i = 3 ∨ i = 4 ∨ i = 5 ∨ i = 6 ∨ i = 7 ∨ i = 8 ∨ i = 9 ∨ i = 10 ∨ i = 11 ∨ i = 12 ∨ i = 13 ∨ i = 14 ∨ i = 15 ∨ i = 16 ∨ i = 17 ∨ i = 18 ∨ i = 19 ∨ i = 20 ∨ i = 21 ∨ i = 22 ∨ i = 23 ∨ i = 24 ∨ i = 25 ∨ i = 26 := by
        have h27 : i < 27 := hi
        omega
      rcases hcases with rfl | rfl | rfl | rfl | rfl | rfl | rfl | rfl | rfl | rfl | rfl | rfl | rfl | rfl | rfl | rfl | rfl | rfl | rfl | rfl | rfl | rfl | rfl | rfl | rfl | rfl | rfl
      · refine wpOp_plain (i := 0) rfl rfl (fun K' hK => ?_)
        have q := hfr.blk HB.out.2.2.1 (by simp)
        have c0 := q.at 0 (v := .int .i32 u) rfl
        have c1 := q.at 1 (v := .int .i32 v) rfl
        clear q
        unfold Oper.wp
        go_simp
        refine hK _ _ ⟨⟨_, _, _, _, _, _, _, _, _, _, _, _, _, _, _, _, _, _, _, _, _, _, _, _, _, _, _, rfl, (fun _ => rfl), (fun h => g1 (h.resolve_right (by decide))), (fun h => g2 (h.resolve_right (by decide))), (fun h => g3 (h.resolve_right (by decide))), (fun h => g4 (h.resolve_right (by decide))), (fun h => g5 (h.resolve_right (by decide))), (fun h => g6 (h.resolve_right (by decide))), (fun h => g7 (h.resolve_right (by decide))), (fun h => g8 (h.resolve_right (by decide))), (fun h => g9 (h.resolve_right (by decide))), (fun h => g10 (h.resolve_right (by decide))), (fun h => g11 (h.resolve_right (by decide))), (fun h => g12 (h.resolve_right (by decide))), (fun h => g13 (h.resolve_right (by decide))), (fun h => g14 (h.resolve_right (by decide))), (fun h => g15 (h.resolve_right (by decide))), (fun h => g16 (h.resolve_right (by decide))), (fun h => g17 (h.resolve_right (by decide))), (fun h => g18 (h.resolve_right (by decide))), (fun h => g19 (h.resolve_right (by decide))), (fun h => g20 (h.resolve_right (by decide))), (fun h => g21 (h.resolve_right (by decide))), (fun h => g22 (h.resolve_right (by decide))), (fun h => g23 (h.resolve_right (by decide))), (fun h => g24 (h.resolve_right (by decide))), (fun h => g25 (h.resolve_right (by decide))), (fun h => g26 (h.resolve_right (by decide)))⟩, hfr⟩
      · refine wpOp_plain (i := 1) rfl rfl (fun K' hK => ?_)
        have q := hfr.blk HB.out.2.2.2.1 (by simp)
        have c0 := q.at 0 (v := .int .i32 u) rfl
        have c1 := q.at 1 (v := .int .i32 v) rfl
        clear q
        unfold Oper.wp
        go_simp
        refine hK _ _ ⟨⟨_, _, _, _, _, _, _, _, _, _, _, _, _, _, _, _, _, _, _, _, _, _, _, _, _, _, _, rfl, (fun h => g0 (h.resolve_right (by decide))), (fun _ => rfl), (fun h => g2 (h.resolve_right (by decide))), (fun h => g3 (h.resolve_right (by decide))), (fun h => g4 (h.resolve_right (by decide))), (fun h => g5 (h.resolve_right (by decide))), (fun h => g6 (h.resolve_right (by decide))), (fun h => g7 (h.resolve_right (by decide))), (fun h => g8 (h.resolve_right (by decide))), (fun h => g9 (h.resolve_right (by decide))), (fun h => g10 (h.resolve_right (by decide))), (fun h => g11 (h.resolve_right (by decide))), (fun h => g12 (h.resolve_right (by decide))), (fun h => g13 (h.resolve_right (by decide))), (fun h => g14 (h.resolve_right (by decide))), (fun h => g15 (h.resolve_right (by decide))), (fun h => g16 (h.resolve_right (by decide))), (fun h => g17 (h.resolve_right (by decide))), (fun h => g18 (h.resolve_right (by decide))), (fun h => g19 (h.resolve_right (by decide))), (fun h => g20 (h.resolve_right (by decide))), (fun h => g21 (h.resolve_right (by decide))), (fun h => g22 (h.resolve_right (by decide))), (fun h => g23 (h.resolve_right (by decide))), (fun h => g24 (h.resolve_right (by decide))), (fun h => g25 (h.resolve_right (by decide))), (fun h => g26 (h.resolve_right (by decide)))⟩, hfr⟩
      · have r0 := g0 (hd _ rfl ⟨0, .data⟩ (by simp) rfl)
        subst r0
        have r1 := g1 (hd _ rfl ⟨1, .data⟩ (by simp) rfl)
        subst r1
        refine wpOp_plain (i := 2) rfl rfl (fun K' hK => ?_)
        unfold Oper.wp
        go_simp
        refine hK _ _ ⟨⟨_, _, _, _, _, _, _, _, _, _, _, _, _, _, _, _, _, _, _, _, _, _, _, _, _, _, _, rfl, (fun h => g0 (h.resolve_right (by decide))), (fun h => g1 (h.resolve_right (by decide))), (fun _ => rfl), (fun h => g3 (h.resolve_right (by decide))), (fun h => g4 (h.resolve_right (by decide))), (fun h => g5 (h.resolve_right (by decide))), (fun h => g6 (h.resolve_right (by decide))), (fun h => g7 (h.resolve_right (by decide))), (fun h => g8 (h.resolve_right (by decide))), (fun h => g9 (h.resolve_right (by decide))), (fun h => g10 (h.resolve_right (by decide))), (fun h => g11 (h.resolve_right (by decide))), (fun h => g12 (h.resolve_right (by decide))), (fun h => g13 (h.resolve_right (by decide))), (fun h => g14 (h.resolve_right (by decide))), (fun h => g15 (h.resolve_right (by decide))), (fun h => g16 (h.resolve_right (by decide))), (fun h => g17 (h.resolve_right (by decide))), (fun h => g18 (h.resolve_right (by decide))), (fun h => g19 (h.resolve_right (by decide))), (fun h => g20 (h.resolve_right (by decide))), (fun h => g21 (h.resolve_right (by decide))), (fun h => g22 (h.resolve_right (by decide))), (fun h => g23 (h.resolve_right (by decide))), (fun h => g24 (h.resolve_right (by decide))), (fun h => g25 (h.resolve_right (by decide))), (fun h => g26 (h.resolve_right (by decide)))⟩, hfr⟩
      · have r2 := g2 (hd _ rfl ⟨2, .data⟩ (by simp) rfl)
        subst r2
        refine wpOp_plain (i := 3) rfl rfl (fun K' hK => ?_)
        unfold Oper.wp
        go_simp
        refine hK _ _ ⟨⟨_, _, _, _, _, _, _, _, _, _, _, _, _, _, _, _, _, _, _, _, _, _, _, _, _, _, _, rfl, (fun h => g0 (h.resolve_right (by decide))), (fun h => g1 (h.resolve_right (by decide))), (fun h => g2 (h.resolve_right (by decide))), (fun _ => rfl), (fun h => g4 (h.resolve_right (by decide))), (fun h => g5 (h.resolve_right (by decide))), (fun h => g6 (h.resolve_right (by decide))), (fun h => g7 (h.resolve_right (by decide))), (fun h => g8 (h.resolve_right (by decide))), (fun h => g9 (h.resolve_right (by decide))), (fun h => g10 (h.resolve_right (by decide))), (fun h => g11 (h.resolve_right (by decide))), (fun h => g12 (h.resolve_right (by decide))), (fun h => g13 (h.resolve_right (by decide))), (fun h => g14 (h.resolve_right (by decide))), (fun h => g15 (h.resolve_right (by decide))), (fun h => g16 (h.resolve_right (by decide))), (fun h => g17 (h.resolve_right (by decide))), (fun h => g18 (h.resolve_right (by decide))), (fun h => g19 (h.resolve_right (by decide))), (fun h => g20 (h.resolve_right (by decide))), (fun h => g21 (h.resolve_right (by decide))), (fun h => g22 (h.resolve_right (by decide))), (fun h => g23 (h.resolve_right (by decide))), (fun h => g24 (h.resolve_right (by decide))), (fun h => g25 (h.resolve_right (by decide))), (fun h => g26 (h.resolve_right (by decide)))⟩, hfr⟩
      · have r3 := g3 (hd _ rfl ⟨3, .guard⟩ (by simp) rfl)
        subst r3
        refine wpOp_wanted (i := 4) rfl rfl (fun K' hK => ?_)
        unfold Oper.wp
        go_simp
        refine hK _ _ ⟨⟨_, _, _, _, _, _, _, _, _, _, _, _, _, _, _, _, _, _, _, _, _, _, _, _, _, _, _, rfl, (fun h => g0 (h.resolve_right (by decide))), (fun h => g1 (h.resolve_right (by decide))), (fun h => g2 (h.resolve_right (by decide))), (fun h => g3 (h.resolve_right (by decide))), (fun _ => rfl), (fun h => g5 (h.resolve_right (by decide))), (fun h => g6 (h.resolve_right (by decide))), (fun h => g7 (h.resolve_right (by decide))), (fun h => g8 (h.resolve_right (by decide))), (fun h => g9 (h.resolve_right (by decide))), (fun h => g10 (h.resolve_right (by decide))), (fun h => g11 (h.resolve_right (by decide))), (fun h => g12 (h.resolve_right (by decide))), (fun h => g13 (h.resolve_right (by decide))), (fun h => g14 (h.resolve_right (by decide))), (fun h => g15 (h.resolve_right (by decide))), (fun h => g16 (h.resolve_right (by decide))), (fun h => g17 (h.resolve_right (by decide))), (fun h => g18 (h.resolve_right (by decide))), (fun h => g19 (h.resolve_right (by decide))), (fun h => g20 (h.resolve_right (by decide))), (fun h => g21 (h.resolve_right (by decide))), (fun h => g22 (h.resolve_right (by decide))), (fun h => g23 (h.resolve_right (by decide))), (fun h => g24 (h.resolve_right (by decide))), (fun h => g25 (h.resolve_right (by decide))), (fun h => g26 (h.resolve_right (by decide)))⟩, hfr⟩
      · have r3 := g3 (hd _ rfl ⟨3, .guard⟩ (by simp) rfl)
        subst r3
        refine wpOp_wanted (i := 5) rfl rfl (fun K' hK => ?_)
        unfold Oper.wp
        go_simp
        refine hK _ _ ⟨⟨_, _, _, _, _, _, _, _, _, _, _, _, _, _, _, _, _, _, _, _, _, _, _, _, _, _, _, rfl, (fun h => g0 (h.resolve_right (by decide))), (fun h => g1 (h.resolve_right (by decide))), (fun h => g2 (h.resolve_right (by decide))), (fun h => g3 (h.resolve_right (by decide))), (fun h => g4 (h.resolve_right (by decide))), (fun _ => rfl), (fun h => g6 (h.resolve_right (by decide))), (fun h => g7 (h.resolve_right (by decide))), (fun h => g8 (h.resolve_right (by decide))), (fun h => g9 (h.resolve_right (by decide))), (fun h => g10 (h.resolve_right (by decide))), (fun h => g11 (h.resolve_right (by decide))), (fun h => g12 (h.resolve_right (by decide))), (fun h => g13 (h.resolve_right (by decide))), (fun h => g14 (h.resolve_right (by decide))), (fun h => g15 (h.resolve_right (by decide))), (fun h => g16 (h.resolve_right (by decide))), (fun h => g17 (h.resolve_right (by decide))), (fun h => g18 (h.resolve_right (by decide))), (fun h => g19 (h.resolve_right (by decide))), (fun h => g20 (h.resolve_right (by decide))), (fun h => g21 (h.resolve_right (by decide))), (fun h => g22 (h.resolve_right (by decide))), (fun h => g23 (h.resolve_right (by decide))), (fun h => g24 (h.resolve_right (by decide))), (fun h => g25 (h.resolve_right (by decide))), (fun h => g26 (h.resolve_right (by decide)))⟩, hfr⟩
      · have r3 := g3 (hd _ rfl ⟨3, .guard⟩ (by simp) rfl)
        subst r3
        have r4 := g4 (hd _ rfl ⟨4, .data⟩ (by simp) rfl)
        subst r4
        have r5 := g5 (hd _ rfl ⟨5, .data⟩ (by simp) rfl)
        subst r5
        refine wpOp_wanted (i := 6) rfl rfl (fun K' hK => ?_)
        unfold Oper.wp
        go_simp
        refine hK _ _ ⟨⟨_, _, _, _, _, _, _, _, _, _, _, _, _, _, _, _, _, _, _, _, _, _, _, _, _, _, _, rfl, (fun h => g0 (h.resolve_right (by decide))), (fun h => g1 (h.resolve_right (by decide))), (fun h => g2 (h.resolve_right (by decide))), (fun h => g3 (h.resolve_right (by decide))), (fun h => g4 (h.resolve_right (by decide))), (fun h => g5 (h.resolve_right (by decide))), (fun _ => rfl), (fun h => g7 (h.resolve_right (by decide))), (fun h => g8 (h.resolve_right (by decide))), (fun h => g9 (h.resolve_right (by decide))), (fun h => g10 (h.resolve_right (by decide))), (fun h => g11 (h.resolve_right (by decide))), (fun h => g12 (h.resolve_right (by decide))), (fun h => g13 (h.resolve_right (by decide))), (fun h => g14 (h.resolve_right (by decide))), (fun h => g15 (h.resolve_right (by decide))), (fun h => g16 (h.resolve_right (by decide))), (fun h => g17 (h.resolve_right (by decide))), (fun h => g18 (h.resolve_right (by decide))), (fun h => g19 (h.resolve_right (by decide))), (fun h => g20 (h.resolve_right (by decide))), (fun h => g21 (h.resolve_right (by decide))), (fun h => g22 (h.resolve_right (by decide))), (fun h => g23 (h.resolve_right (by decide))), (fun h => g24 (h.resolve_right (by decide))), (fun h => g25 (h.resolve_right (by decide))), (fun h => g26 (h.resolve_right (by decide)))⟩, hfr⟩
      · have r3 := g3 (hd _ rfl ⟨3, .data⟩ (by simp) rfl)
        subst r3
        have r6 := g6 (hd _ rfl ⟨6, .data⟩ (by simp) rfl)
        subst r6
        refine wpOp_plain (i := 7) rfl rfl (fun K' hK => ?_)
        unfold Oper.wp
        go_simp
        refine hK _ _ ⟨⟨_, _, _, _, _, _, _, _, _, _, _, _, _, _, _, _, _, _, _, _, _, _, _, _, _, _, _, rfl, (fun h => g0 (h.resolve_right (by decide))), (fun h => g1 (h.resolve_right (by decide))), (fun h => g2 (h.resolve_right (by decide))), (fun h => g3 (h.resolve_right (by decide))), (fun h => g4 (h.resolve_right (by decide))), (fun h => g5 (h.resolve_right (by decide))), (fun h => g6 (h.resolve_right (by decide))), (fun _ => rfl), (fun h => g8 (h.resolve_right (by decide))), (fun h => g9 (h.resolve_right (by decide))), (fun h => g10 (h.resolve_right (by decide))), (fun h => g11 (h.resolve_right (by decide))), (fun h => g12 (h.resolve_right (by decide))), (fun h => g13 (h.resolve_right (by decide))), (fun h => g14 (h.resolve_right (by decide))), (fun h => g15 (h.resolve_right (by decide))), (fun h => g16 (h.resolve_right (by decide))), (fun h => g17 (h.resolve_right (by decide))), (fun h => g18 (h.resolve_right (by decide))), (fun h => g19 (h.resolve_right (by decide))), (fun h => g20 (h.resolve_right (by decide))), (fun h => g21 (h.resolve_right (by decide))), (fun h => g22 (h.resolve_right (by decide))), (fun h => g23 (h.resolve_right (by decide))), (fun h => g24 (h.resolve_right (by decide))), (fun h => g25 (h.resolve_right (by decide))), (fun h => g26 (h.resolve_right (by decide)))⟩, hfr⟩
      · have r7 := g7 (hd _ rfl ⟨7, .data⟩ (by simp) rfl)
        subst r7
        refine wpOp_plain (i := 8) rfl rfl (fun K' hK => ?_)
        unfold Oper.wp
        go_simp
        refine hK _ _ ⟨⟨_, _, _, _, _, _, _, _, _, _, _, _, _, _, _, _, _, _, _, _, _, _, _, _, _, _, _, rfl, (fun h => g0 (h.resolve_right (by decide))), (fun h => g1 (h.resolve_right (by decide))), (fun h => g2 (h.resolve_right (by decide))), (fun h => g3 (h.resolve_right (by decide))), (fun h => g4 (h.resolve_right (by decide))), (fun h => g5 (h.resolve_right (by decide))), (fun h => g6 (h.resolve_right (by decide))), (fun h => g7 (h.resolve_right (by decide))), (fun _ => rfl), (fun h => g9 (h.resolve_right (by decide))), (fun h => g10 (h.resolve_right (by decide))), (fun h => g11 (h.resolve_right (by decide))), (fun h => g12 (h.resolve_right (by decide))), (fun h => g13 (h.resolve_right (by decide))), (fun h => g14 (h.resolve_right (by decide))), (fun h => g15 (h.resolve_right (by decide))), (fun h => g16 (h.resolve_right (by decide))), (fun h => g17 (h.resolve_right (by decide))), (fun h => g18 (h.resolve_right (by decide))), (fun h => g19 (h.resolve_right (by decide))), (fun h => g20 (h.resolve_right (by decide))), (fun h => g21 (h.resolve_right (by decide))), (fun h => g22 (h.resolve_right (by decide))), (fun h => g23 (h.resolve_right (by decide))), (fun h => g24 (h.resolve_right (by decide))), (fun h => g25 (h.resolve_right (by decide))), (fun h => g26 (h.resolve_right (by decide)))⟩, hfr⟩
      · have r8 := g8 (hd _ rfl ⟨8, .guard⟩ (by simp) rfl)
        subst r8
        refine wpOp_wanted (i := 9) rfl rfl (fun K' hK => ?_)
        have q := hfr.blk HB.out.2.2.2.2.1 (by simp)
        have c0 := q.at 0 (v := .int .i32 k0) rfl
        have c1 := q.at 1 (v := .int .i32 k1) rfl
        have c2 := q.at 2 (v := .int .i32 k2) rfl
        have c3 := q.at 3 (v := .int .i32 k3) rfl
        clear q
        unfold Oper.wp
        go_simp
        refine hK _ _ ⟨⟨_, _, _, _, _, _, _, _, _, _, _, _, _, _, _, _, _, _, _, _, _, _, _, _, _, _, _, rfl, (fun h => g0 (h.resolve_right (by decide))), (fun h => g1 (h.resolve_right (by decide))), (fun h => g2 (h.resolve_right (by decide))), (fun h => g3 (h.resolve_right (by decide))), (fun h => g4 (h.resolve_right (by decide))), (fun h => g5 (h.resolve_right (by decide))), (fun h => g6 (h.resolve_right (by decide))), (fun h => g7 (h.resolve_right (by decide))), (fun h => g8 (h.resolve_right (by decide))), (fun _ => rfl), (fun h => g10 (h.resolve_right (by decide))), (fun h => g11 (h.resolve_right (by decide))), (fun h => g12 (h.resolve_right (by decide))), (fun h => g13 (h.resolve_right (by decide))), (fun h => g14 (h.resolve_right (by decide))), (fun h => g15 (h.resolve_right (by decide))), (fun h => g16 (h.resolve_right (by decide))), (fun h => g17 (h.resolve_right (by decide))), (fun h => g18 (h.resolve_right (by decide))), (fun h => g19 (h.resolve_right (by decide))), (fun h => g20 (h.resolve_right (by decide))), (fun h => g21 (h.resolve_right (by decide))), (fun h => g22 (h.resolve_right (by decide))), (fun h => g23 (h.resolve_right (by decide))), (fun h => g24 (h.resolve_right (by decide))), (fun h => g25 (h.resolve_right (by decide))), (fun h => g26 (h.resolve_right (by decide)))⟩, hfr⟩
      · have r8 := g8 (hd _ rfl ⟨8, .guard⟩ (by simp) rfl)
        subst r8
        refine wpOp_wanted (i := 10) rfl rfl (fun K' hK => ?_)
        have q := hfr.blk HB.out.2.2.2.2.2 (by simp)
        have c0 := q.at 0 (v := .int .i32 k0) rfl
        have c1 := q.at 1 (v := .int .i32 k1) rfl
        have c2 := q.at 2 (v := .int .i32 k2) rfl
        have c3 := q.at 3 (v := .int .i32 k3) rfl
        clear q
        unfold Oper.wp
        go_simp
        refine hK _ _ ⟨⟨_, _, _, _, _, _, _, _, _, _, _, _, _, _, _, _, _, _, _, _, _, _, _, _, _, _, _, rfl, (fun h => g0 (h.resolve_right (by decide))), (fun h => g1 (h.resolve_right (by decide))), (fun h => g2 (h.resolve_right (by decide))), (fun h => g3 (h.resolve_right (by decide))), (fun h => g4 (h.resolve_right (by decide))), (fun h => g5 (h.resolve_right (by decide))), (fun h => g6 (h.resolve_right (by decide))), (fun h => g7 (h.resolve_right (by decide))), (fun h => g8 (h.resolve_right (by decide))), (fun h => g9 (h.resolve_right (by decide))), (fun _ => rfl), (fun h => g11 (h.resolve_right (by decide))), (fun h => g12 (h.resolve_right (by decide))), (fun h => g13 (h.resolve_right (by decide))), (fun h => g14 (h.resolve_right (by decide))), (fun h => g15 (h.resolve_right (by decide))), (fun h => g16 (h.resolve_right (by decide))), (fun h => g17 (h.resolve_right (by decide))), (fun h => g18 (h.resolve_right (by decide))), (fun h => g19 (h.resolve_right (by decide))), (fun h => g20 (h.resolve_right (by decide))), (fun h => g21 (h.resolve_right (by decide))), (fun h => g22 (h.resolve_right (by decide))), (fun h => g23 (h.resolve_right (by decide))), (fun h => g24 (h.resolve_right (by decide))), (fun h => g25 (h.resolve_right (by decide))), (fun h => g26 (h.resolve_right (by decide)))⟩, hfr⟩
      · have r8 := g8 (hd _ rfl ⟨8, .guard⟩ (by simp) rfl)
        subst r8
        have r9 := g9 (hd _ rfl ⟨9, .data⟩ (by simp) rfl)
        subst r9
        have r10 := g10 (hd _ rfl ⟨10, .data⟩ (by simp) rfl)
        subst r10
        refine wpOp_wanted (i := 11) rfl rfl (fun K' hK => ?_)
        unfold Oper.wp
        go_simp
        refine hK _ _ ⟨⟨_, _, _, _, _, _, _, _, _, _, _, _, _, _, _, _, _, _, _, _, _, _, _, _, _, _, _, rfl, (fun h => g0 (h.resolve_right (by decide))), (fun h => g1 (h.resolve_right (by decide))), (fun h => g2 (h.resolve_right (by decide))), (fun h => g3 (h.resolve_right (by decide))), (fun h => g4 (h.resolve_right (by decide))), (fun h => g5 (h.resolve_right (by decide))), (fun h => g6 (h.resolve_right (by decide))), (fun h => g7 (h.resolve_right (by decide))), (fun h => g8 (h.resolve_right (by decide))), (fun h => g9 (h.resolve_right (by decide))), (fun h => g10 (h.resolve_right (by decide))), (fun _ => rfl), (fun h => g12 (h.resolve_right (by decide))), (fun h => g13 (h.resolve_right (by decide))), (fun h => g14 (h.resolve_right (by decide))), (fun h => g15 (h.resolve_right (by decide))), (fun h => g16 (h.resolve_right (by decide))), (fun h => g17 (h.resolve_right (by decide))), (fun h => g18 (h.resolve_right (by decide))), (fun h => g19 (h.resolve_right (by decide))), (fun h => g20 (h.resolve_right (by decide))), (fun h => g21 (h.resolve_right (by decide))), (fun h => g22 (h.resolve_right (by decide))), (fun h => g23 (h.resolve_right (by decide))), (fun h => g24 (h.resolve_right (by decide))), (fun h => g25 (h.resolve_right (by decide))), (fun h => g26 (h.resolve_right (by decide)))⟩, hfr⟩
      · have r8 := g8 (hd _ rfl ⟨8, .data⟩ (by simp) rfl)
        subst r8
        have r11 := g11 (hd _ rfl ⟨11, .data⟩ (by simp) rfl)
        subst r11
        refine wpOp_plain (i := 12) rfl rfl (fun K' hK => ?_)
        unfold Oper.wp
        go_simp
        refine hK _ _ ⟨⟨_, _, _, _, _, _, _, _, _, _, _, _, _, _, _, _, _, _, _, _, _, _, _, _, _, _, _, rfl, (fun h => g0 (h.resolve_right (by decide))), (fun h => g1 (h.resolve_right (by decide))), (fun h => g2 (h.resolve_right (by decide))), (fun h => g3 (h.resolve_right (by decide))), (fun h => g4 (h.resolve_right (by decide))), (fun h => g5 (h.resolve_right (by decide))), (fun h => g6 (h.resolve_right (by decide))), (fun h => g7 (h.resolve_right (by decide))), (fun h => g8 (h.resolve_right (by decide))), (fun h => g9 (h.resolve_right (by decide))), (fun h => g10 (h.resolve_right (by decide))), (fun h => g11 (h.resolve_right (by decide))), (fun _ => rfl), (fun h => g13 (h.resolve_right (by decide))), (fun h => g14 (h.resolve_right (by decide))), (fun h => g15 (h.resolve_right (by decide))), (fun h => g16 (h.resolve_right (by decide))), (fun h => g17 (h.resolve_right (by decide))), (fun h => g18 (h.resolve_right (by decide))), (fun h => g19 (h.resolve_right (by decide))), (fun h => g20 (h.resolve_right (by decide))), (fun h => g21 (h.resolve_right (by decide))), (fun h => g22 (h.resolve_right (by decide))), (fun h => g23 (h.resolve_right (by decide))), (fun h => g24 (h.resolve_right (by decide))), (fun h => g25 (h.resolve_right (by decide))), (fun h => g26 (h.resolve_right (by decide)))⟩, hfr⟩
      · have r12 := g12 (hd _ rfl ⟨12, .data⟩ (by simp) rfl)
        subst r12
        refine wpOp_plain (i := 13) rfl rfl (fun K' hK => ?_)
        unfold Oper.wp
        go_simp
        refine hK _ _ ⟨⟨_, _, _, _, _, _, _, _, _, _, _, _, _, _, _, _, _, _, _, _, _, _, _, _, _, _, _, rfl, (fun h => g0 (h.resolve_right (by decide))), (fun h => g1 (h.resolve_right (by decide))), (fun h => g2 (h.resolve_right (by decide))), (fun h => g3 (h.resolve_right (by decide))), (fun h => g4 (h.resolve_right (by decide))), (fun h => g5 (h.resolve_right (by decide))), (fun h => g6 (h.resolve_right (by decide))), (fun h => g7 (h.resolve_right (by decide))), (fun h => g8 (h.resolve_right (by decide))), (fun h => g9 (h.resolve_right (by decide))), (fun h => g10 (h.resolve_right (by decide))), (fun h => g11 (h.resolve_right (by decide))), (fun h => g12 (h.resolve_right (by decide))), (fun _ => rfl), (fun h => g14 (h.resolve_right (by decide))), (fun h => g15 (h.resolve_right (by decide))), (fun h => g16 (h.resolve_right (by decide))), (fun h => g17 (h.resolve_right (by decide))), (fun h => g18 (h.resolve_right (by decide))), (fun h => g19 (h.resolve_right (by decide))), (fun h => g20 (h.resolve_right (by decide))), (fun h => g21 (h.resolve_right (by decide))), (fun h => g22 (h.resolve_right (by decide))), (fun h => g23 (h.resolve_right (by decide))), (fun h => g24 (h.resolve_right (by decide))), (fun h => g25 (h.resolve_right (by decide))), (fun h => g26 (h.resolve_right (by decide)))⟩, hfr⟩
      · have r13 := g13 (hd _ rfl ⟨13, .guard⟩ (by simp) rfl)
        subst r13
        refine wpOp_wanted (i := 14) rfl rfl (fun K' hK => ?_)
        unfold Oper.wp
        go_simp
        refine hK _ _ ⟨⟨_, _, _, _, _, _, _, _, _, _, _, _, _, _, _, _, _, _, _, _, _, _, _, _, _, _, _, rfl, (fun h => g0 (h.resolve_right (by decide))), (fun h => g1 (h.resolve_right (by decide))), (fun h => g2 (h.resolve_right (by decide))), (fun h => g3 (h.resolve_right (by decide))), (fun h => g4 (h.resolve_right (by decide))), (fun h => g5 (h.resolve_right (by decide))), (fun h => g6 (h.resolve_right (by decide))), (fun h => g7 (h.resolve_right (by decide))), (fun h => g8 (h.resolve_right (by decide))), (fun h => g9 (h.resolve_right (by decide))), (fun h => g10 (h.resolve_right (by decide))), (fun h => g11 (h.resolve_right (by decide))), (fun h => g12 (h.resolve_right (by decide))), (fun h => g13 (h.resolve_right (by decide))), (fun _ => rfl), (fun h => g15 (h.resolve_right (by decide))), (fun h => g16 (h.resolve_right (by decide))), (fun h => g17 (h.resolve_right (by decide))), (fun h => g18 (h.resolve_right (by decide))), (fun h => g19 (h.resolve_right (by decide))), (fun h => g20 (h.resolve_right (by decide))), (fun h => g21 (h.resolve_right (by decide))), (fun h => g22 (h.resolve_right (by decide))), (fun h => g23 (h.resolve_right (by decide))), (fun h => g24 (h.resolve_right (by decide))), (fun h => g25 (h.resolve_right (by decide))), (fun h => g26 (h.resolve_right (by decide)))⟩, hfr⟩
      · have r13 := g13 (hd _ rfl ⟨13, .guard⟩ (by simp) rfl)
        subst r13
        refine wpOp_wanted (i := 15) rfl rfl (fun K' hK => ?_)
        unfold Oper.wp
        go_simp
        refine hK _ _ ⟨⟨_, _, _, _, _, _, _, _, _, _, _, _, _, _, _, _, _, _, _, _, _, _, _, _, _, _, _, rfl, (fun h => g0 (h.resolve_right (by decide))), (fun h => g1 (h.resolve_right (by decide))), (fun h => g2 (h.resolve_right (by decide))), (fun h => g3 (h.resolve_right (by decide))), (fun h => g4 (h.resolve_right (by decide))), (fun h => g5 (h.resolve_right (by decide))), (fun h => g6 (h.resolve_right (by decide))), (fun h => g7 (h.resolve_right (by decide))), (fun h => g8 (h.resolve_right (by decide))), (fun h => g9 (h.resolve_right (by decide))), (fun h => g10 (h.resolve_right (by decide))), (fun h => g11 (h.resolve_right (by decide))), (fun h => g12 (h.resolve_right (by decide))), (fun h => g13 (h.resolve_right (by decide))), (fun h => g14 (h.resolve_right (by decide))), (fun _ => rfl), (fun h => g16 (h.resolve_right (by decide))), (fun h => g17 (h.resolve_right (by decide))), (fun h => g18 (h.resolve_right (by decide))), (fun h => g19 (h.resolve_right (by decide))), (fun h => g20 (h.resolve_right (by decide))), (fun h => g21 (h.resolve_right (by decide))), (fun h => g22 (h.resolve_right (by decide))), (fun h => g23 (h.resolve_right (by decide))), (fun h => g24 (h.resolve_right (by decide))), (fun h => g25 (h.resolve_right (by decide))), (fun h => g26 (h.resolve_right (by decide)))⟩, hfr⟩
      · have r13 := g13 (hd _ rfl ⟨13, .guard⟩ (by simp) rfl)
        subst r13
        have r14 := g14 (hd _ rfl ⟨14, .data⟩ (by simp) rfl)
        subst r14
        have r15 := g15 (hd _ rfl ⟨15, .data⟩ (by simp) rfl)
        subst r15
        refine wpOp_wanted (i := 16) rfl rfl (fun K' hK => ?_)
        unfold Oper.wp
        go_simp
        refine hK _ _ ⟨⟨_, _, _, _, _, _, _, _, _, _, _, _, _, _, _, _, _, _, _, _, _, _, _, _, _, _, _, rfl, (fun h => g0 (h.resolve_right (by decide))), (fun h => g1 (h.resolve_right (by decide))), (fun h => g2 (h.resolve_right (by decide))), (fun h => g3 (h.resolve_right (by decide))), (fun h => g4 (h.resolve_right (by decide))), (fun h => g5 (h.resolve_right (by decide))), (fun h => g6 (h.resolve_right (by decide))), (fun h => g7 (h.resolve_right (by decide))), (fun h => g8 (h.resolve_right (by decide))), (fun h => g9 (h.resolve_right (by decide))), (fun h => g10 (h.resolve_right (by decide))), (fun h => g11 (h.resolve_right (by decide))), (fun h => g12 (h.resolve_right (by decide))), (fun h => g13 (h.resolve_right (by decide))), (fun h => g14 (h.resolve_right (by decide))), (fun h => g15 (h.resolve_right (by decide))), (fun _ => rfl), (fun h => g17 (h.resolve_right (by decide))), (fun h => g18 (h.resolve_right (by decide))), (fun h => g19 (h.resolve_right (by decide))), (fun h => g20 (h.resolve_right (by decide))), (fun h => g21 (h.resolve_right (by decide))), (fun h => g22 (h.resolve_right (by decide))), (fun h => g23 (h.resolve_right (by decide))), (fun h => g24 (h.resolve_right (by decide))), (fun h => g25 (h.resolve_right (by decide))), (fun h => g26 (h.resolve_right (by decide)))⟩, hfr⟩
      · have r13 := g13 (hd _ rfl ⟨13, .data⟩ (by simp) rfl)
        subst r13
        have r16 := g16 (hd _ rfl ⟨16, .data⟩ (by simp) rfl)
        subst r16
        refine wpOp_plain (i := 17) rfl rfl (fun K' hK => ?_)
        unfold Oper.wp
        go_simp
        refine hK _ _ ⟨⟨_, _, _, _, _, _, _, _, _, _, _, _, _, _, _, _, _, _, _, _, _, _, _, _, _, _, _, rfl, (fun h => g0 (h.resolve_right (by decide))), (fun h => g1 (h.resolve_right (by decide))), (fun h => g2 (h.resolve_right (by decide))), (fun h => g3 (h.resolve_right (by decide))), (fun h => g4 (h.resolve_right (by decide))), (fun h => g5 (h.resolve_right (by decide))), (fun h => g6 (h.resolve_right (by decide))), (fun h => g7 (h.resolve_right (by decide))), (fun h => g8 (h.resolve_right (by decide))), (fun h => g9 (h.resolve_right (by decide))), (fun h => g10 (h.resolve_right (by decide))), (fun h => g11 (h.resolve_right (by decide))), (fun h => g12 (h.resolve_right (by decide))), (fun h => g13 (h.resolve_right (by decide))), (fun h => g14 (h.resolve_right (by decide))), (fun h => g15 (h.resolve_right (by decide))), (fun h => g16 (h.resolve_right (by decide))), (fun _ => rfl), (fun h => g18 (h.resolve_right (by decide))), (fun h => g19 (h.resolve_right (by decide))), (fun h => g20 (h.resolve_right (by decide))), (fun h => g21 (h.resolve_right (by decide))), (fun h => g22 (h.resolve_right (by decide))), (fun h => g23 (h.resolve_right (by decide))), (fun h => g24 (h.resolve_right (by decide))), (fun h => g25 (h.resolve_right (by decide))), (fun h => g26 (h.resolve_right (by decide)))⟩, hfr⟩
      · have r17 := g17 (hd _ rfl ⟨17, .data⟩ (by simp) rfl)
        subst r17
        refine wpOp_plain (i := 18) rfl rfl (fun K' hK => ?_)
        unfold Oper.wp
        go_simp
        refine hK _ _ ⟨⟨_, _, _, _, _, _, _, _, _, _, _, _, _, _, _, _, _, _, _, _, _, _, _, _, _, _, _, rfl, (fun h => g0 (h.resolve_right (by decide))), (fun h => g1 (h.resolve_right (by decide))), (fun h => g2 (h.resolve_right (by decide))), (fun h => g3 (h.resolve_right (by decide))), (fun h => g4 (h.resolve_right (by decide))), (fun h => g5 (h.resolve_right (by decide))), (fun h => g6 (h.resolve_right (by decide))), (fun h => g7 (h.resolve_right (by decide))), (fun h => g8 (h.resolve_right (by decide))), (fun h => g9 (h.resolve_right (by decide))), (fun h => g10 (h.resolve_right (by decide))), (fun h => g11 (h.resolve_right (by decide))), (fun h => g12 (h.resolve_right (by decide))), (fun h => g13 (h.resolve_right (by decide))), (fun h => g14 (h.resolve_right (by decide))), (fun h => g15 (h.resolve_right (by decide))), (fun h => g16 (h.resolve_right (by decide))), (fun h => g17 (h.resolve_right (by decide))), (fun _ => rfl), (fun h => g19 (h.resolve_right (by decide))), (fun h => g20 (h.resolve_right (by decide))), (fun h => g21 (h.resolve_right (by decide))), (fun h => g22 (h.resolve_right (by decide))), (fun h => g23 (h.resolve_right (by decide))), (fun h => g24 (h.resolve_right (by decide))), (fun h => g25 (h.resolve_right (by decide))), (fun h => g26 (h.resolve_right (by decide)))⟩, hfr⟩
      · have r18 := g18 (hd _ rfl ⟨18, .guard⟩ (by simp) rfl)
        subst r18
        refine wpOp_wanted (i := 19) rfl rfl (fun K' hK => ?_)
        have q := hfr.blk HB.out.2.1 (by simp)
        have c0 := q.at 0 (v := .int .i32 a) rfl
        have c1 := q.at 1 (v := .int .i32 b) rfl
        have c2 := q.at 2 (v := .int .i32 c) rfl
        have c3 := q.at 3 (v := .int .i32 d) rfl
        clear q
        unfold Oper.wp
        go_simp
        refine hK _ _ ⟨⟨_, _, _, _, _, _, _, _, _, _, _, _, _, _, _, _, _, _, _, _, _, _, _, _, _, _, _, rfl, (fun h => g0 (h.resolve_right (by decide))), (fun h => g1 (h.resolve_right (by decide))), (fun h => g2 (h.resolve_right (by decide))), (fun h => g3 (h.resolve_right (by decide))), (fun h => g4 (h.resolve_right (by decide))), (fun h => g5 (h.resolve_right (by decide))), (fun h => g6 (h.resolve_right (by decide))), (fun h => g7 (h.resolve_right (by decide))), (fun h => g8 (h.resolve_right (by decide))), (fun h => g9 (h.resolve_right (by decide))), (fun h => g10 (h.resolve_right (by decide))), (fun h => g11 (h.resolve_right (by decide))), (fun h => g12 (h.resolve_right (by decide))), (fun h => g13 (h.resolve_right (by decide))), (fun h => g14 (h.resolve_right (by decide))), (fun h => g15 (h.resolve_right (by decide))), (fun h => g16 (h.resolve_right (by decide))), (fun h => g17 (h.resolve_right (by decide))), (fun h => g18 (h.resolve_right (by decide))), (fun _ => rfl), (fun h => g20 (h.resolve_right (by decide))), (fun h => g21 (h.resolve_right (by decide))), (fun h => g22 (h.resolve_right (by decide))), (fun h => g23 (h.resolve_right (by decide))), (fun h => g24 (h.resolve_right (by decide))), (fun h => g25 (h.resolve_right (by decide))), (fun h => g26 (h.resolve_right (by decide)))⟩, hfr⟩
      · have r18 := g18 (hd _ rfl ⟨18, .guard⟩ (by simp) rfl)
        subst r18
        refine wpOp_wanted (i := 20) rfl rfl (fun K' hK => ?_)
        unfold Oper.wp
        go_simp
        refine hK _ _ ⟨⟨_, _, _, _, _, _, _, _, _, _, _, _, _, _, _, _, _, _, _, _, _, _, _, _, _, _, _, rfl, (fun h => g0 (h.resolve_right (by decide))), (fun h => g1 (h.resolve_right (by decide))), (fun h => g2 (h.resolve_right (by decide))), (fun h => g3 (h.resolve_right (by decide))), (fun h => g4 (h.resolve_right (by decide))), (fun h => g5 (h.resolve_right (by decide))), (fun h => g6 (h.resolve_right (by decide))), (fun h => g7 (h.resolve_right (by decide))), (fun h => g8 (h.resolve_right (by decide))), (fun h => g9 (h.resolve_right (by decide))), (fun h => g10 (h.resolve_right (by decide))), (fun h => g11 (h.resolve_right (by decide))), (fun h => g12 (h.resolve_right (by decide))), (fun h => g13 (h.resolve_right (by decide))), (fun h => g14 (h.resolve_right (by decide))), (fun h => g15 (h.resolve_right (by decide))), (fun h => g16 (h.resolve_right (by decide))), (fun h => g17 (h.resolve_right (by decide))), (fun h => g18 (h.resolve_right (by decide))), (fun h => g19 (h.resolve_right (by decide))), (fun _ => rfl), (fun h => g21 (h.resolve_right (by decide))), (fun h => g22 (h.resolve_right (by decide))), (fun h => g23 (h.resolve_right (by decide))), (fun h => g24 (h.resolve_right (by decide))), (fun h => g25 (h.resolve_right (by decide))), (fun h => g26 (h.resolve_right (by decide)))⟩, hfr⟩
      · have r18 := g18 (hd _ rfl ⟨18, .guard⟩ (by simp) rfl)
        subst r18
        have r19 := g19 (hd _ rfl ⟨19, .data⟩ (by simp) rfl)
        subst r19
        have r20 := g20 (hd _ rfl ⟨20, .data⟩ (by simp) rfl)
        subst r20
        refine wpOp_wanted (i := 21) rfl rfl (fun K' hK => ?_)
        unfold Oper.wp
        go_simp
        (with_reducible refine (HC.out _).mono ?_)
        rintro e w9 ⟨rfl, f⟩
        refine hK _ _ ⟨⟨_, _, _, _, _, _, _, _, _, _, _, _, _, _, _, _, _, _, _, _, _, _, _, _, _, _, _, rfl, (fun h => g0 (h.resolve_right (by decide))), (fun h => g1 (h.resolve_right (by decide))), (fun h => g2 (h.resolve_right (by decide))), (fun h => g3 (h.resolve_right (by decide))), (fun h => g4 (h.resolve_right (by decide))), (fun h => g5 (h.resolve_right (by decide))), (fun h => g6 (h.resolve_right (by decide))), (fun h => g7 (h.resolve_right (by decide))), (fun h => g8 (h.resolve_right (by decide))), (fun h => g9 (h.resolve_right (by decide))), (fun h => g10 (h.resolve_right (by decide))), (fun h => g11 (h.resolve_right (by decide))), (fun h => g12 (h.resolve_right (by decide))), (fun h => g13 (h.resolve_right (by decide))), (fun h => g14 (h.resolve_right (by decide))), (fun h => g15 (h.resolve_right (by decide))), (fun h => g16 (h.resolve_right (by decide))), (fun h => g17 (h.resolve_right (by decide))), (fun h => g18 (h.resolve_right (by decide))), (fun h => g19 (h.resolve_right (by decide))), (fun h => g20 (h.resolve_right (by decide))), (fun _ => rfl), (fun h => g22 (h.resolve_right (by decide))), (fun h => g23 (h.resolve_right (by decide))), (fun h => g24 (h.resolve_right (by decide))), (fun h => g25 (h.resolve_right (by decide))), (fun h => g26 (h.resolve_right (by decide)))⟩, (hfr.trans f (by simp))⟩
      · have r18 := g18 (hd _ rfl ⟨18, .guard⟩ (by simp) rfl)
        subst r18
        refine wpOp_wanted (i := 22) rfl rfl (fun K' hK => ?_)
        have q := hfr.blk HB.out.2.1 (by simp)
        have c0 := q.at 0 (v := .int .i32 a) rfl
        have c1 := q.at 1 (v := .int .i32 b) rfl
        have c2 := q.at 2 (v := .int .i32 c) rfl
        have c3 := q.at 3 (v := .int .i32 d) rfl
        clear q
        unfold Oper.wp
        go_simp
        refine hK _ _ ⟨⟨_, _, _, _, _, _, _, _, _, _, _, _, _, _, _, _, _, _, _, _, _, _, _, _, _, _, _, rfl, (fun h => g0 (h.resolve_right (by decide))), (fun h => g1 (h.resolve_right (by decide))), (fun h => g2 (h.resolve_right (by decide))), (fun h => g3 (h.resolve_right (by decide))), (fun h => g4 (h.resolve_right (by decide))), (fun h => g5 (h.resolve_right (by decide))), (fun h => g6 (h.resolve_right (by decide))), (fun h => g7 (h.resolve_right (by decide))), (fun h => g8 (h.resolve_right (by decide))), (fun h => g9 (h.resolve_right (by decide))), (fun h => g10 (h.resolve_right (by decide))), (fun h => g11 (h.resolve_right (by decide))), (fun h => g12 (h.resolve_right (by decide))), (fun h => g13 (h.resolve_right (by decide))), (fun h => g14 (h.resolve_right (by decide))), (fun h => g15 (h.resolve_right (by decide))), (fun h => g16 (h.resolve_right (by decide))), (fun h => g17 (h.resolve_right (by decide))), (fun h => g18 (h.resolve_right (by decide))), (fun h => g19 (h.resolve_right (by decide))), (fun h => g20 (h.resolve_right (by decide))), (fun h => g21 (h.resolve_right (by decide))), (fun _ => rfl), (fun h => g23 (h.resolve_right (by decide))), (fun h => g24 (h.resolve_right (by decide))), (fun h => g25 (h.resolve_right (by decide))), (fun h => g26 (h.resolve_right (by decide)))⟩, hfr⟩
      · have r18 := g18 (hd _ rfl ⟨18, .guard⟩ (by simp) rfl)
        subst r18
        refine wpOp_wanted (i := 23) rfl rfl (fun K' hK => ?_)
        unfold Oper.wp
        go_simp
        refine hK _ _ ⟨⟨_, _, _, _, _, _, _, _, _, _, _, _, _, _, _, _, _, _, _, _, _, _, _, _, _, _, _, rfl, (fun h => g0 (h.resolve_right (by decide))), (fun h => g1 (h.resolve_right (by decide))), (fun h => g2 (h.resolve_right (by decide))), (fun h => g3 (h.resolve_right (by decide))), (fun h => g4 (h.resolve_right (by decide))), (fun h => g5 (h.resolve_right (by decide))), (fun h => g6 (h.resolve_right (by decide))), (fun h => g7 (h.resolve_right (by decide))), (fun h => g8 (h.resolve_right (by decide))), (fun h => g9 (h.resolve_right (by decide))), (fun h => g10 (h.resolve_right (by decide))), (fun h => g11 (h.resolve_right (by decide))), (fun h => g12 (h.resolve_right (by decide))), (fun h => g13 (h.resolve_right (by decide))), (fun h => g14 (h.resolve_right (by decide))), (fun h => g15 (h.resolve_right (by decide))), (fun h => g16 (h.resolve_right (by decide))), (fun h => g17 (h.resolve_right (by decide))), (fun h => g18 (h.resolve_right (by decide))), (fun h => g19 (h.resolve_right (by decide))), (fun h => g20 (h.resolve_right (by decide))), (fun h => g21 (h.resolve_right (by decide))), (fun h => g22 (h.resolve_right (by decide))), (fun _ => rfl), (fun h => g24 (h.resolve_right (by decide))), (fun h => g25 (h.resolve_right (by decide))), (fun h => g26 (h.resolve_right (by decide)))⟩, hfr⟩
      · have r18 := g18 (hd _ rfl ⟨18, .guard⟩ (by simp) rfl)
        subst r18
        have r22 := g22 (hd _ rfl ⟨22, .data⟩ (by simp) rfl)
        subst r22
        have r23 := g23 (hd _ rfl ⟨23, .data⟩ (by simp) rfl)
        subst r23
        refine wpOp_wanted (i := 24) rfl rfl (fun K' hK => ?_)
        unfold Oper.wp
        go_simp
        (with_reducible refine (HD.out _).mono ?_)
        rintro e w9 ⟨rfl, f⟩
        refine hK _ _ ⟨⟨_, _, _, _, _, _, _, _, _, _, _, _, _, _, _, _, _, _, _, _, _, _, _, _, _, _, _, rfl, (fun h => g0 (h.resolve_right (by decide))), (fun h => g1 (h.resolve_right (by decide))), (fun h => g2 (h.resolve_right (by decide))), (fun h => g3 (h.resolve_right (by decide))), (fun h => g4 (h.resolve_right (by decide))), (fun h => g5 (h.resolve_right (by decide))), (fun h => g6 (h.resolve_right (by decide))), (fun h => g7 (h.resolve_right (by decide))), (fun h => g8 (h.resolve_right (by decide))), (fun h => g9 (h.resolve_right (by decide))), (fun h => g10 (h.resolve_right (by decide))), (fun h => g11 (h.resolve_right (by decide))), (fun h => g12 (h.resolve_right (by decide))), (fun h => g13 (h.resolve_right (by decide))), (fun h => g14 (h.resolve_right (by decide))), (fun h => g15 (h.resolve_right (by decide))), (fun h => g16 (h.resolve_right (by decide))), (fun h => g17 (h.resolve_right (by decide))), (fun h => g18 (h.resolve_right (by decide))), (fun h => g19 (h.resolve_right (by decide))), (fun h => g20 (h.resolve_right (by decide))), (fun h => g21 (h.resolve_right (by decide))), (fun h => g22 (h.resolve_right (by decide))), (fun h => g23 (h.resolve_right (by decide))), (fun _ => rfl), (fun h => g25 (h.resolve_right (by decide))), (fun h => g26 (h.resolve_right (by decide)))⟩, (hfr.trans f (by simp))⟩
      · have r18 := g18 (hd _ rfl ⟨18, .guard⟩ (by simp) rfl)
        subst r18
        have r21 := g21 (hd _ rfl ⟨21, .data⟩ (by simp) rfl)
        subst r21
        have r24 := g24 (hd _ rfl ⟨24, .data⟩ (by simp) rfl)
        subst r24
        refine wpOp_wanted (i := 25) rfl rfl (fun K' hK => ?_)
        unfold Oper.wp
        go_simp
        refine hK _ _ ⟨⟨_, _, _, _, _, _, _, _, _, _, _, _, _, _, _, _, _, _, _, _, _, _, _, _, _, _, _, rfl, (fun h => g0 (h.resolve_right (by decide))), (fun h => g1 (h.resolve_right (by decide))), (fun h => g2 (h.resolve_right (by decide))), (fun h => g3 (h.resolve_right (by decide))), (fun h => g4 (h.resolve_right (by decide))), (fun h => g5 (h.resolve_right (by decide))), (fun h => g6 (h.resolve_right (by decide))), (fun h => g7 (h.resolve_right (by decide))), (fun h => g8 (h.resolve_right (by decide))), (fun h => g9 (h.resolve_right (by decide))), (fun h => g10 (h.resolve_right (by decide))), (fun h => g11 (h.resolve_right (by decide))), (fun h => g12 (h.resolve_right (by decide))), (fun h => g13 (h.resolve_right (by decide))), (fun h => g14 (h.resolve_right (by decide))), (fun h => g15 (h.resolve_right (by decide))), (fun h => g16 (h.resolve_right (by decide))), (fun h => g17 (h.resolve_right (by decide))), (fun h => g18 (h.resolve_right (by decide))), (fun h => g19 (h.resolve_right (by decide))), (fun h => g20 (h.resolve_right (by decide))), (fun h => g21 (h.resolve_right (by decide))), (fun h => g22 (h.resolve_right (by decide))), (fun h => g23 (h.resolve_right (by decide))), (fun h => g24 (h.resolve_right (by decide))), (fun _ => rfl), (fun h => g26 (h.resolve_right (by decide)))⟩, hfr⟩
      · have r18 := g18 (hd _ rfl ⟨18, .data⟩ (by simp) rfl)
        subst r18
        have r25 := g25 (hd _ rfl ⟨25, .data⟩ (by simp) rfl)
        subst r25
        refine wpOp_plain (i := 26) rfl rfl (fun K' hK => ?_)
        unfold Oper.wp
        go_simp
        refine hK _ _ ⟨⟨_, _, _, _, _, _, _, _, _, _, _, _, _, _, _, _, _, _, _, _, _, _, _, _, _, _, _, rfl, (fun h => g0 (h.resolve_right (by decide))), (fun h => g1 (h.resolve_right (by decide))), (fun h => g2 (h.resolve_right (by decide))), (fun h => g3 (h.resolve_right (by decide))), (fun h => g4 (h.resolve_right (by decide))), (fun h => g5 (h.resolve_right (by decide))), (fun h => g6 (h.resolve_right (by decide))), (fun h => g7 (h.resolve_right (by decide))), (fun h => g8 (h.resolve_right (by decide))), (fun h => g9 (h.resolve_right (by decide))), (fun h => g10 (h.resolve_right (by decide))), (fun h => g11 (h.resolve_right (by decide))), (fun h => g12 (h.resolve_right (by decide))), (fun h => g13 (h.resolve_right (by decide))), (fun h => g14 (h.resolve_right (by decide))), (fun h => g15 (h.resolve_right (by decide))), (fun h => g16 (h.resolve_right (by decide))), (fun h => g17 (h.resolve_right (by decide))), (fun h => g18 (h.resolve_right (by decide))), (fun h => g19 (h.resolve_right (by decide))), (fun h => g20 (h.resolve_right (by decide))), (fun h => g21 (h.resolve_right (by decide))), (fun h => g22 (h.resolve_right (by decide))), (fun h => g23 (h.resolve_right (by decide))), (fun h => g24 (h.resolve_right (by decide))), (fun h => g25 (h.resolve_right (by decide))), (fun _ => rfl)⟩, hfr⟩
    · intro p x W i hI
      obtain ⟨⟨x0, x1, x2, x3, x4, x5, x6, x7, x8, x9, x10, x11, x12, x13, x14, x15, x16, x17, x18, x19, x20, x21, x22, x23, x24, x25, x26, rfl, -, -, -, -, -, -, -, -, -, -, -, -, -, -, -, -, -, -, -, -, -, -, -, -, -, -, g26⟩, hfr⟩ := hI
      obtain rfl := g26 (i 26 (by decide))
      simp only [Exit.then]
      go_wp2_with fail
      go_meet
      case rel => exact ⟨rfl, hfr⟩
  case rest =>
    obtain ⟨rfl, hg⟩ := hcut
    have HC5 := Lib.hid (And.intro (HB.out.1.trans hg (by simp)) (hg.blk HB.out.2.1 (by simp)))
    clear hg HB HC HD
    have a0 := HC5.out.2.at 0 (v := .int .i32 a) rfl
    have a1 := HC5.out.2.at 1 (v := .int .i32 b) rfl
    have a2 := HC5.out.2.at 2 (v := .int .i32 c) rfl
    have a3 := HC5.out.2.at 3 (v := .int .i32 d) rfl
    go_wp2_with fail
    (with_reducible refine (cover_any _ _ _ _ _ _).mono ?_)
    rintro e w6 ⟨rfl, hh6, f6⟩
    have H6 := Lib.hid (And.intro hh6 (And.intro (HC5.out.1.trans f6 (by simp)) (f6.blk HC5.out.2 (by simp))))
    clear a0 a1 a2 a3 hh6 f6 HC5
    have a0 := H6.out.2.2.at 0 (v := .int .i32 a) rfl
    have a1 := H6.out.2.2.at 1 (v := .int .i32 b) rfl
    have a2 := H6.out.2.2.at 2 (v := .int .i32 c) rfl
    have a3 := H6.out.2.2.at 3 (v := .int .i32 d) rfl
    go_wp2_with fail
    (with_reducible refine (refCover_any _ _ _ _ _ _).mono ?_)
    rintro e w7 ⟨v7, rfl, hown, hge, f7⟩
    rw [HL.out] at hown
    have H7 := Lib.hid (And.intro (H6.out.1.fr f7) (And.intro (H6.out.2.1.trans f7 (by simp)) hown))
    clear hown hge f7 a0 a1 a2 a3 H6
    have hh7 := H7.out.1
    go_wp2_with fail
    (with_reducible refine (first_cover _ _ _ _ _ _ _ _ hh7).mono ?_)
    rintro e w8 ⟨v8, rfl, hown8, hge8, hen8, f8⟩
    rw [HL.out] at hown8
    have hown := own_fr H7.out.2.2 f8 (by simp)
    have H8 := Lib.hid (And.intro hen8 (And.intro (H7.out.2.1.trans f8 (by simp)) hown))
    have r8 := RdC.of_own hown8 HN.out
    have s8 := RdC.of_own hown HN.out
    clear hown8 hge8 hen8 f8 hown hh7 H7
    go_wp2_with fail
    (with_reducible refine (same_any _ _ _ _ _ r8 s8).mono ?_)
    rintro e w9 ⟨rfl, f9⟩
    have H9 := Lib.hid (And.intro (H8.out.1.fr f9) (And.intro (H8.out.2.1.trans f9 (by simp)) (own_fr H8.out.2.2 f9 (by simp))))
    clear f9 r8 s8 H8
    have hh9 := H9.out.1
    rw [decide_eq_true rfl]
    go_wp2_with fail
    (with_reducible refine (first_cover _ _ _ _ _ _ _ _ hh9).mono ?_)
    rintro e wd ⟨vd, rfl, hownd, hged, hend, fd⟩
    rw [HL.out] at hownd
    have rd := RdC.of_own hownd HN.out
    have sd := RdC.of_own (own_fr H9.out.2.2 fd (by simp)) HN.out
    have HDD := Lib.hid (H9.out.2.1.trans fd (by simp))
    clear hownd hged hend fd hh9 H9
    go_wp2_with fail
    (with_reducible refine (same_any _ _ _ _ _ rd sd).mono ?_)
    rintro e we ⟨rfl, fe⟩
    have HE := Lib.hid (HDD.out.trans fe (by simp))
    clear fe rd sd
    rw [decide_eq_true rfl]
    go_wp2_with fail
    (with_reducible refine (lives_any _).mono ?_)
    rintro e wf ⟨rfl, ff⟩
    have HF := Lib.hid (HE.out.trans ff (by simp))
    clear ff
    go_wp2
    go_ret
    exact ⟨rfl, HF.out⟩

set_option maxRecDepth 100000 in
theorem lifted (os : Os) (started : os.Started) (H : Type) (enc : TypeId × Value → H) :
    ReturnsInHanded {} Try.checked os 5 .any (Rows.cellCoversSpec.pre6 enc Try.prog Try.f5 Rows.cellCoversRow.domain false) (Rows.cellCoversSpec.post enc Try.prog Try.f5 false true false false) := by
  refine returnsInHanded_of_change (C := Try.checked) own started (by kernel_rfl) Try.func5
    (ChangeSpec.witness6 (enc := enc) (C := Try.checked) false ⟨#[], #[.agg #[.int .i32 0, .int .i32 0, .int .i32 0, .int .i32 0, .int .i32 0, .int .i32 0, .int .i32 0, .int .i32 0, .int .i32 0, .int .i32 0], .int .i64 0], []⟩ 8 (by kernel_rfl) (by kernel_rfl) (by kernel_rfl) (by kernel_rfl)) ?_
  intro W base args ds gs before hval0 hW hcnd _
  have hval : ∀ (j : Nat) t v, Try.f5.params[j]? = some t → args[j]? = some v → Value.okWide Try.prog W .any base t v := hval0
  have hW' := hW
  obtain ⟨p, q, hA, hV, rfl, hfz, hnd⟩ := hW
  rw [Try.params5] at hA hval
  obtain ⟨v0, v1, d0, d1, p0, p1, hargs, rfl, rfl, h0, h1⟩ := trodAll_two hA
  obtain ⟨rfl, rfl⟩ := trodVars_none hV
  have : args = #[v0, v1] := by simpa using hargs
  subst this
  obtain ⟨fu0, l0, rfl, e0⟩ := open_agg Try.underlying41 (hval 0 41 v0 rfl rfl) h0
  obtain ⟨px, py, qx, qy, a, b, c, d, ex, ey, rfl, hpx, hpy, _, _, _, _, _, _, hex, hey⟩ := read_ask e0
  obtain ⟨s, rfl, _, _, ws⟩ := open_int Try.underlying2 (hval 1 2 v1 rfl rfl) h1
  refine (walk W px py qx qy a b c d ex ey s hpx hpy hex hey).mono fun e W' ⟨he, hg⟩ => ?_
  exact ⟨_, he, law_post (tb := 4) laidOut (by
    rw [Try.params5]; intro t ht; simp at ht
    rcases ht with rfl | rfl
    · exact ⟨by kernel_rfl, of_decide_eq_true (by kernel_rfl)⟩
    · exact ⟨by kernel_rfl, of_decide_eq_true (by kernel_rfl)⟩) rfl Try.underlying4 rfl hW' rfl hg⟩
theorem over : Rows.cellCoversRow.holds Try.pinned (OpenSpec.ofChange Rows.cellCoversSpec) :=
  OpenClaim.holds_of_wide 5 Try.f5 rfl rfl rfl rfl rfl rfl rfl ⟨rfl, rfl, rfl, rfl, rfl⟩ rfl rfl rfl rfl rfl (by kernel_rfl) Try.func5 (by kernel_rfl)
    (of_decide_eq_true (by kernel_rfl)) (by unfold Func.isWrapper; first | (rw [if_pos (by decide +kernel)]; kernel_rfl) | (rw [if_neg (by decide +kernel)]; exact ⟨rfl, rfl⟩))
    (fun os started H enc _ => lifted os started H enc)
/-- The statement CellCovers. -/
theorem proved : Rows.CellCoversSaid := over
#print axioms proved

end cellCovers
end Go.Proofs.Ythagbhiblncpkaa

