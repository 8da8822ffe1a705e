/-
  CellCodes: of any cell its place, and back; greater coordinates have greater places. For every input.
-/
import Derived.Test.YthagbhiblncpkaaCellM
import Derived.Deep.DrawnRows
import Derived.Deep.RegionHeld3
namespace Go.Proofs.Ythagbhiblncpkaa
open Go.RowKit Go.Shelf Go.ChangeShapes Go.WideShapes Go.ChangeAt
set_option linter.unusedVariables false
attribute [local go_sem ↓] Go.wp_at_zero Go.wp_at_succ

theorem up_lt {x : Int} (h : I32 x) : up x < 4294967296 := by unfold I32 at h; unfold up; omega
theorem dn_up {x : Int} (h : I32 x) : dn (up x) = x := by unfold I32 at h; unfold dn up; omega
theorem up_dn (g : Nat) : up (dn g) = g := by unfold up dn; omega
theorem cellX_code {x y : Int} (hx : I32 x) : cellX (codeN x y) = x := by
  unfold cellX codeN
  rw [gth_spr, Nat.mod_eq_of_lt (by have := up_lt hx; omega), dn_up hx]
theorem cellY_code {x y : Int} (hy : I32 y) : cellY (codeN x y) = y := by
  unfold cellY codeN
  rw [gth_spr', Nat.mod_eq_of_lt (by have := up_lt hy; omega), dn_up hy]
theorem code_cell (n : Nat) (h : n < 18446744073709551616) : codeN (cellX n) (cellY n) = n := by
  unfold codeN cellX cellY
  rw [up_dn, up_dn, spr_gth, Nat.mod_eq_of_lt (by omega)]
theorem code_mono {a b c d : Int} (hc : I32 c) (hd : I32 d) (h1 : a ≤ c) (h2 : b ≤ d) : codeN a b ≤ codeN c d := by
  have e1 : up a ≤ up c := by unfold up; omega
  have e2 : up b ≤ up d := by unfold up; omega
  have := spr_mono 32 _ _ e1 (up_lt hc)
  have := spr_mono 32 _ _ e2 (up_lt hd)
  unfold codeN
  omega
theorem code_lt {x y : Int} (hx : I32 x) (hy : I32 y) : codeN x y < 18446744073709551616 := by
  have := spr_lt 32 (up x)
  have := spr_lt 32 (up y)
  unfold codeN
  omega
theorem i32_dn {g : Nat} (h : g < 4294967296) : I32 (dn g) := by unfold I32 dn; omega
theorem i32_cellX (n : Nat) : I32 (cellX n) := i32_dn (gth_lt 32 n)
theorem i32_cellY (n : Nat) : I32 (cellY n) := i32_dn (gth_lt 32 _)

/-- The two cells in their boxes. -/
def Two (k : Nat) (cx cy dx dy : Int) (w : World) : Prop :=
  w.cell? ⟨k, 0, none⟩ = some (.int .i32 cx) ∧ w.cell? ⟨k, 1, none⟩ = some (.int .i32 cy) ∧ w.cell? ⟨k + 1, 0, none⟩ = some (.int .i32 dx) ∧ w.cell? ⟨k + 1, 1, none⟩ = some (.int .i32 dy)
theorem Two.fr {k : Nat} {cx cy dx dy : Int} {w w' : World} (f : Fr [] w w') (h : Two k cx cy dx dy w) : Two k cx cy dx dy w' :=
  ⟨(f.cell (World.block_lt_of_cell? w _ h.1) (by simp)).trans h.1, (f.cell (World.block_lt_of_cell? w _ h.2.1) (by simp)).trans h.2.1, (f.cell (World.block_lt_of_cell? w _ h.2.2.1) (by simp)).trans h.2.2.1, (f.cell (World.block_lt_of_cell? w _ h.2.2.2) (by simp)).trans h.2.2.2⟩

namespace cellCodes
set_option maxRecDepth 100000 in
set_option maxHeartbeats 4000000 in
theorem walk (w : World) (cx cy dx dy : Int) (n : Nat) (hcx : I32 cx) (hcy : I32 cy) (hdx : I32 dx) (hdy : I32 dy) (hn : n < 18446744073709551616) :
    Calls Try.prog 4 #[pt cx cy, pt dx dy, .int .u64 (n : Int)] w fun e w' => e = .returned (.bool true) ∧ Fr [] w w' := by
  have q1 := cellX_code (y := cy) hcx
  have q2 := cellY_code (x := cx) hcy
  have q3 := code_cell n hn
  have C1 := Lib.hid (fun w => Code_any w cx cy hcx hcy)
  have C2 := Lib.hid (fun w => Code_any w (cellX n) (cellY n) (i32_cellX n) (i32_cellY n))
  have C3 := Lib.hid (fun w => Code_any w dx dy hdx hdy)
  have R1 := Lib.hid (fun w => refCode_any w cx cy hcx hcy)
  have D1 := Lib.hid (fun w => Decode_any w n hn)
  have D2 := Lib.hid (fun w => Decode_any w (codeN cx cy) (code_lt hcx hcy))
  have R2 := Lib.hid (fun w => refDecode_any w n hn)
  have HM := Lib.hid (fun h1 h2 => code_mono hdx hdy (a := cx) (b := cy) h1 h2)
  rw [q1, q2] at D2
  rw [q3] at C2
  clear q1 q2 q3
  have hne := neq33
  generalize codeN cx cy = K at *
  generalize codeN dx dy = K2 at *
  generalize cellX n = X at *
  generalize cellY n = Y at *
  unfold pt
  go_enter Try.func4, Try.ntmps4
  go_wp2
  have T0 : Two w.heap.size cx cy dx dy (((w.alloc (.cells #[.int .i32 cx, .int .i32 cy] 33)).alloc (.cells #[.int .i32 dx, .int .i32 dy] 33))) :=
    ⟨((Blk.new _ _ _).alloc _).at 0 rfl, ((Blk.new _ _ _).alloc _).at 1 rfl, (Blk.new_at (by simp) _ _).at 0 rfl, (Blk.new_at (by simp) _ _).at 1 rfl⟩
  have F0 : Fr [] w (((w.alloc (.cells #[.int .i32 cx, .int .i32 cy] 33)).alloc (.cells #[.int .i32 dx, .int .i32 dy] 33))) := ((Fr.refl _ _).alloc _).alloc _
  generalize ((w.alloc (.cells #[.int .i32 cx, .int .i32 cy] 33)).alloc (.cells #[.int .i32 dx, .int .i32 dy] 33)) = w1 at *
  have F1 : Fr [] w w1.drew := F0.drew
  have T1 := Two.fr (Fr.refl [] w1).drew T0
  clear F0 T0
  go_region_held3 (fun w' => w'.cell? ⟨w.heap.size, 0, none⟩ = some (.int .i32 cx) ∧ w'.cell? ⟨w.heap.size, 1, none⟩ = some (.int .i32 cy) ∧ w'.cell? ⟨w.heap.size + 1, 0, none⟩ = some (.int .i32 dx) ∧ w'.cell? ⟨w.heap.size + 1, 1, none⟩ = some (.int .i32 dy)) (first | exact TT | exact T1)
    (first
      | (go_at_call_of 12 (Value.agg #[Value.int IntKind.i32 cx, Value.int IntKind.i32 cy]); refine (C1.out _).mono ?_; rintro e w4 ⟨rfl, f4⟩; have TT := Two.fr f4 (by first | exact TT | exact T1); have FF : Fr [] w w4 := Fr.trans (by first | exact FF | exact F1) f4 (by simp))
      | (go_at_call_of 12 (pt X Y); refine (C2.out _).mono ?_; rintro e w4 ⟨rfl, f4⟩; have TT := Two.fr f4 (by first | exact TT | exact T1); have FF : Fr [] w w4 := Fr.trans (by first | exact FF | exact F1) f4 (by simp))
      | (go_at_call_of 13 (Value.agg #[Value.int IntKind.i32 cx, Value.int IntKind.i32 cy]); refine (R1.out _).mono ?_; rintro e w4 ⟨rfl, f4⟩; have TT := Two.fr f4 (by first | exact TT | exact T1); have FF : Fr [] w w4 := Fr.trans (by first | exact FF | exact F1) f4 (by simp))
      | (go_at_call_of 14 (Value.int IntKind.u64 (n : Int)); refine (D1.out _).mono ?_; rintro e w4 ⟨rfl, f4⟩; have TT := Two.fr f4 (by first | exact TT | exact T1); have FF : Fr [] w w4 := Fr.trans (by first | exact FF | exact F1) f4 (by simp))
      | (go_at_call_of 14 (Value.int IntKind.u64 (K : Int)); refine (D2.out _).mono ?_; rintro e w4 ⟨rfl, f4⟩; have TT := Two.fr f4 (by first | exact TT | exact T1); have FF : Fr [] w w4 := Fr.trans (by first | exact FF | exact F1) f4 (by simp))
      | (go_at_call_of 15 (Value.int IntKind.u64 (n : Int)); refine (R2.out _).mono ?_; rintro e w4 ⟨rfl, f4⟩; have TT := Two.fr f4 (by first | exact TT | exact T1); have FF : Fr [] w w4 := Fr.trans (by first | exact FF | exact F1) f4 (by simp)))
  simp only [Exit.then]
  by_cases h1 : cx ≤ dx
  · by_cases h2 : cy ≤ dy
    · have hm := HM.out h1 h2
      have hm2 : (K : Int) ≤ (K2 : Int) := by omega
      clear hm
      have F2 : Fr [] w w4.drew := FF.drew
      have T2 := Two.fr (Fr.refl [] w4).drew TT
      clear TT FF
      go_wp2_with fail
      go_region_held3 (fun w' => w'.cell? ⟨w.heap.size, 0, none⟩ = some (.int .i32 cx) ∧ w'.cell? ⟨w.heap.size, 1, none⟩ = some (.int .i32 cy) ∧ w'.cell? ⟨w.heap.size + 1, 0, none⟩ = some (.int .i32 dx) ∧ w'.cell? ⟨w.heap.size + 1, 1, none⟩ = some (.int .i32 dy)) (first | exact TU | exact T2)
    (first
      | (go_at_call_of 12 (Value.agg #[Value.int IntKind.i32 cx, Value.int IntKind.i32 cy]); refine (C1.out _).mono ?_; rintro e w5 ⟨rfl, f5⟩; have TU := Two.fr f5 (by first | exact TU | exact T2); have FU : Fr [] w w5 := Fr.trans (by first | exact FU | exact F2) f5 (by simp))
      | (go_at_call_of 12 (Value.agg #[Value.int IntKind.i32 dx, Value.int IntKind.i32 dy]); refine (C3.out _).mono ?_; rintro e w5 ⟨rfl, f5⟩; have TU := Two.fr f5 (by first | exact TU | exact T2); have FU : Fr [] w w5 := Fr.trans (by first | exact FU | exact F2) f5 (by simp)))
      all_goals
        simp only [Exit.then]
        have HU := Lib.hid FU
        clear TU FU T2 F2
        go_wp2_with fail
        (with_reducible refine (lives_any _).mono ?_)
        rintro e w8 ⟨rfl, f8⟩
        have H8 := Lib.hid (HU.out.trans f8 (by simp))
        clear f8
        go_wp2
        go_ret
        exact ⟨rfl, H8.out⟩
    · have hd2 : decide (cy ≤ dy) = false := by simp; omega
      obtain ⟨t1, t2, t3, t4⟩ := TT
      have HU := Lib.hid FF
      clear FF
      go_wp2_with fail
      go_quiet (fail)
      go_wp2_with fail
      (with_reducible refine (lives_any _).mono ?_)
      rintro e w8 ⟨rfl, f8⟩
      have H8 := Lib.hid ((HU.out.drewN _).trans f8 (by simp))
      clear f8
      go_wp2
      go_ret
      exact ⟨rfl, H8.out⟩
  · have hd1 : decide (cx ≤ dx) = false := by simp; omega
    obtain ⟨t1, t2, t3, t4⟩ := TT
    have HU := Lib.hid FF
    clear FF
    go_wp2_with fail
    go_quiet (fail)
    go_wp2_with fail
    (with_reducible refine (lives_any _).mono ?_)
    rintro e w8 ⟨rfl, f8⟩
    have H8 := Lib.hid ((HU.out.drewN _).trans f8 (by simp))
    clear f8
    go_wp2
    go_ret
    exact ⟨rfl, H8.out⟩
set_option maxRecDepth 100000 in
theorem lifted (os : Os) (started : os.Started) (H : Type) (enc : TypeId × Value → H) :
    ReturnsInHanded {} Try.checked os 4 .any (Rows.cellCodesSpec.pre6 enc Try.prog Try.f4 Rows.cellCodesRow.domain false) (Rows.cellCodesSpec.post enc Try.prog Try.f4 false true false false) := by
  refine returnsInHanded_of_change (C := Try.checked) own started (by kernel_rfl) Try.func4
    (ChangeSpec.witness6 (enc := enc) (C := Try.checked) false ⟨#[], #[.agg #[.int .i32 0, .int .i32 0], .agg #[.int .i32 0, .int .i32 0], .int .u64 0], []⟩ 8 (by kernel_rfl) (by kernel_rfl) (by kernel_rfl) (by kernel_rfl)) ?_
  intro W base args ds gs before hval0 hW hcnd _
  have hval : ∀ (j : Nat) t v, Try.f4.params[j]? = some t → args[j]? = some v → Value.okWide Try.prog W .any base t v := hval0
  have hW' := hW
  obtain ⟨p, q, hA, hV, rfl, hfz, hnd⟩ := hW
  rw [Try.params4] at hA hval
  obtain ⟨v0, v1, v2, d0, d1, d2, p0, p1, p2, hargs, rfl, rfl, h0, h1, h2⟩ := trodAll_three hA
  obtain ⟨rfl, rfl⟩ := trodVars_none hV
  have : args = #[v0, v1, v2] := by simpa using hargs
  subst this
  obtain ⟨fu0, l0, rfl, e0⟩ := open_agg Try.underlying33 (hval 0 33 v0 rfl rfl) h0
  obtain ⟨cx, cy, rfl, hcx, hcy⟩ := read_cell e0
  obtain ⟨fu1, l1, rfl, e1⟩ := open_agg Try.underlying33 (hval 1 33 v1 rfl rfl) h1
  obtain ⟨dx, dy, rfl, hdx, hdy⟩ := read_cell e1
  obtain ⟨n0, rfl, _, _, wn⟩ := open_int Try.underlying34 (hval 2 34 v2 rfl rfl) h2
  have bn := bounds_u64 wn
  obtain ⟨n, rfl⟩ := Int.eq_ofNat_of_zero_le bn.1
  refine (walk W cx cy dx dy n hcx hcy hdx hdy (by omega)).mono fun e W' ⟨he, hg⟩ => ?_
  exact ⟨_, he, law_post (tb := 4) laidOut (by
    rw [Try.params4]; intro t ht; simp at ht
    rcases ht with rfl | rfl
    · exact ⟨by kernel_rfl, of_decide_eq_true (by kernel_rfl)⟩
    · exact ⟨by kernel_rfl, of_decide_eq_true (by kernel_rfl)⟩) rfl Try.underlying4 rfl hW' rfl hg⟩
theorem over : Rows.cellCodesRow.holds Try.pinned (OpenSpec.ofChange Rows.cellCodesSpec) :=
  OpenClaim.holds_of_wide 4 Try.f4 rfl rfl rfl rfl rfl rfl rfl ⟨rfl, rfl, rfl, rfl, rfl⟩ rfl rfl rfl rfl rfl (by kernel_rfl) Try.func4 (by kernel_rfl)
    (of_decide_eq_true (by kernel_rfl)) (by unfold Func.isWrapper; first | (rw [if_pos (by decide +kernel)]; kernel_rfl) | (rw [if_neg (by decide +kernel)]; exact ⟨rfl, rfl⟩))
    (fun os started H enc _ => lifted os started H enc)
/-- The statement CellCodes. -/
theorem proved : Rows.CellCodesSaid := over
#print axioms proved

end cellCodes
end Go.Proofs.Ythagbhiblncpkaa
