/-
  CellLines: of any segment the first 401 cells, twice. For every input.
-/
import Derived.Test.YthagbhiblncpkaaCellL
namespace Go.Proofs.Ythagbhiblncpkaa
open Go.RowKit Go.Shelf Go.ChangeShapes Go.WideShapes Go.ChangeAt
set_option linter.unusedVariables false

theorem own : ownKnob Try.prog.godebug = none := by kernel_rfl
theorem laidOut : laidOutB Try.prog = true := by kernel_rfl
theorem two_of {α : Type} {l : List α} (h : l.length = 2) : ∃ a b, l = [a, b] := by
  match l, h with
  | [a, b], _ => exact ⟨a, b, rfl⟩
theorem cells23 : Try.prog.cellsOf 23 = 2 := by kernel_rfl
theorem cells33 : Try.prog.cellsOf 33 = 2 := by kernel_rfl
theorem wf_i32 {n : Int} (h : (Lit.int .i32 n).wf = true) : I32 n := by
  have := bounds_i32 h
  unfold I32; omega
theorem read_pt {w : World} {H : Type} {enc : TypeId × Value → H} {fuel : Nat} {cs : List Value} {x : DataW H × List MemPlace} (h : DataW.trod enc Try.prog w 0 (fun _ => true) true fuel 23 cs = some x) :
    ∃ a b : Int, cs = [.int .i32 a, .int .i32 b] ∧ I32 a ∧ I32 b := by
  obtain ⟨xs, m, _, _, hl, hlen, hf⟩ := DataW.trod_struct Try.underlying23 h
  rw [cells23] at hl
  obtain ⟨a, b, rfl⟩ := two_of hl
  obtain ⟨y0, y1, rfl⟩ := two_of hlen
  obtain ⟨n0, h0, w0⟩ := read_int Try.underlying21 (hf 0 _ rfl)
  obtain ⟨n1, h1, w1⟩ := read_int Try.underlying21 (hf 1 _ rfl)
  have q0 : [a] = [Value.int .i32 n0] := h0
  have q1 : [b] = [Value.int .i32 n1] := h1
  cases q0; cases q1
  exact ⟨n0, n1, rfl, wf_i32 w0, wf_i32 w1⟩
theorem read_cell {w : World} {H : Type} {enc : TypeId × Value → H} {fuel : Nat} {cs : List Value} {x : DataW H × List MemPlace} (h : DataW.trod enc Try.prog w 0 (fun _ => true) true fuel 33 cs = some x) :
    ∃ a b : Int, cs = [.int .i32 a, .int .i32 b] ∧ I32 a ∧ I32 b := by
  obtain ⟨xs, m, _, _, hl, hlen, hf⟩ := DataW.trod_struct Try.underlying33 h
  rw [cells33] at hl
  obtain ⟨a, b, rfl⟩ := two_of hl
  obtain ⟨y0, y1, rfl⟩ := two_of hlen
  obtain ⟨n0, h0, w0⟩ := read_int Try.underlying21 (hf 0 _ rfl)
  obtain ⟨n1, h1, w1⟩ := read_int Try.underlying21 (hf 1 _ rfl)
  have q0 : [a] = [Value.int .i32 n0] := h0
  have q1 : [b] = [Value.int .i32 n1] := h1
  cases q0; cases q1
  exact ⟨n0, n1, rfl, wf_i32 w0, wf_i32 w1⟩

/-- What Line answers. -/
def LinePost (w : World) (px py qx qy s : Int) (e : Ending) (w' : World) : Prop :=
  ∃ bs bp bq, e = .returned (.func (.func 30) #[] #[.pointer (some ⟨bs, 0, none⟩), .pointer (some ⟨bp, 0, none⟩), .pointer (some ⟨bq, 0, none⟩)]) ∧ LineHeld bs bp bq px py qx qy s w' ∧ w.heap.size ≤ bp ∧ w.heap.size ≤ bq ∧ Fr [] w w'
theorem Line_post (w : World) (px py qx qy s : Int) : Calls Try.prog 7 #[pt px py, pt qx qy, .int .i64 s] w (LinePost w px py qx qy s) :=
  (Line_any w px py qx qy s).mono fun _ _ ⟨h1, h2, h3⟩ => ⟨_, _, _, h1, .inl h2, by omega, by omega, h3⟩
theorem LineHeld.fr {bs bp bq : Nat} {px py qx qy s : Int} {W W' : World} (h : LineHeld bs bp bq px py qx qy s W) (f : Fr [] W W') : LineHeld bs bp bq px py qx qy s W' :=
  h.imp (fun h => h.fr f) (fun h => ⟨h.1, h.2.fr f⟩)

theorem own_line {bs bp bq : Nat} {px py qx qy s : Int} {W W' : World} {v : Value} {n : Nat} {xs : List Value} (h : W.ownsRow 0 33 2 v n xs) (hh : LineHeld bs bp bq px py qx qy s W) (f : Fr [bp, bq] W W') : W'.ownsRow 0 33 2 v n xs := by
  refine own_fr h f (fun g hg hm => ?_)
  have key : ∀ a b c d, Held bs bp bq a b c d s W → False := fun a b c d hl => by
    simp at hm
    rcases hm with rfl | rfl
    · exact own_notin h hl.p (by decide) (by simp [hg])
    · exact own_notin h hl.q (by decide) (by simp [hg])
  rcases hh with hh | ⟨_, hh⟩
  · exact key _ _ _ _ hh
  · exact key _ _ _ _ hh

namespace cellLines
set_option maxHeartbeats 1000000 in
theorem walk (w : World) (px py qx qy s : Int) : Calls Try.prog 3 #[pt px py, pt qx qy, .int .i64 s] w fun e w' => e = .returned (.bool true) ∧ Fr [] w w' := by
  obtain ⟨L, hL⟩ : ∃ L, (lineSeq px py qx qy s).take 401 = L := ⟨_, rfl⟩
  have hlen : L.length ≤ 4611686018427387904 := by rw [← hL]; simp; omega
  have HL := Lib.hid hL
  have HN := Lib.hid hlen
  clear hL hlen
  unfold pt
  go_enter Try.func3, Try.ntmps3
  go_wp2_with fail
  (with_reducible refine (Line_post _ _ _ _ _ _).mono ?_)
  rintro e w2 ⟨bs, bp, bq, rfl, hh, hb1, hb2, f2⟩
  have hc0 := (f2.blk ((Blk.new w #[.int .i32 px, .int .i32 py] 23).alloc _) (by simp))
  have hc1 := (f2.blk (Blk.new_at (w := w.alloc (.cells #[.int .i32 px, .int .i32 py] 23)) (k := w.heap.size + 1) (by simp) #[.int .i32 qx, .int .i32 qy] 23) (by simp))
  have p0 := hc0.at 0 (v := .int .i32 px) rfl
  have p1 := hc0.at 1 (v := .int .i32 py) rfl
  have q0 := hc1.at 0 (v := .int .i32 qx) rfl
  have q1 := hc1.at 1 (v := .int .i32 qy) rfl
  have F2 : Fr [] w w2 := (((Fr.refl [] w).alloc _).alloc _).trans f2 (by simp)
  have hp : w.heap.size ≤ bp ∧ w.heap.size ≤ bq := by simp at hb1 hb2; omega
  have H2 := Lib.hid (And.intro hh (And.intro F2 hp))
  clear hh F2 hp hb1 hb2 hc0 hc1 f2
  go_wp2_with fail
  (with_reducible refine (refFirst_any _ _ _ _ _ _).mono ?_)
  rintro e w3 ⟨v, rfl, hown, hge, f3⟩
  rw [HL.out] at hown
  have H3 := Lib.hid (And.intro (H2.out.1.fr f3) (And.intro (H2.out.2.1.trans f3 (by simp)) hown))
  clear hown hge f3 p0 p1 q0 q1
  have hh3 := H3.out.1
  go_wp2_with fail
  (with_reducible refine (first_line _ _ _ _ _ _ _ _ _ hh3).mono ?_)
  rintro e w4 ⟨v4, rfl, hown4, hge4, hen4, f4⟩
  rw [HL.out] at hown4
  have hown := own_line H3.out.2.2 H3.out.1 f4
  have H4 := Lib.hid (And.intro hen4 (And.intro (H3.out.2.1.trans f4 (by intro x hx; have := H2.out.2.2; simp at hx; omega)) hown))
  have r4 := RdC.of_own hown4 HN.out
  have s4 := RdC.of_own hown HN.out
  clear hown4 hge4 hen4 f4 hown hh3
  go_wp2_with fail
  (with_reducible refine (same_any _ _ _ _ _ r4 s4).mono ?_)
  rintro e w5 ⟨rfl, f5⟩
  have H5 := Lib.hid (And.intro (H4.out.1.fr f5) (And.intro (H4.out.2.1.trans f5 (by simp)) (own_fr H4.out.2.2 f5 (by simp))))
  clear f5 r4 s4
  have hh5 := H5.out.1
  rw [decide_eq_true rfl]
  go_wp2_with fail
  (with_reducible refine (first_line _ _ _ _ _ _ _ _ _ hh5).mono ?_)
  rintro e w6 ⟨v6, rfl, hown6, hge6, hen6, f6⟩
  rw [HL.out] at hown6
  have r6 := RdC.of_own hown6 HN.out
  have s6 := RdC.of_own (own_line H5.out.2.2 H5.out.1 f6) HN.out
  have H6 := Lib.hid (H5.out.2.1.trans f6 (by intro x hx; have := H2.out.2.2; simp at hx; omega))
  clear hown6 hge6 hen6 f6 hh5
  go_wp2_with fail
  (with_reducible refine (same_any _ _ _ _ _ r6 s6).mono ?_)
  rintro e w7 ⟨rfl, f7⟩
  have H7 := Lib.hid (H6.out.trans f7 (by simp))
  clear f7 r6 s6
  rw [decide_eq_true rfl]
  go_wp2_with fail
  (with_reducible refine (lives_any _).mono ?_)
  rintro e w8 ⟨rfl, f8⟩
  have H8 := Lib.hid (H7.out.trans f8 (by simp))
  clear f8
  go_wp2
  go_ret
  exact ⟨rfl, H8.out⟩

set_option maxRecDepth 100000 in
theorem lifted (os : Os) (started : os.Started) (H : Type) (enc : TypeId × Value → H) :
    ReturnsInHanded {} Try.checked os 3 .any (Rows.cellLinesSpec.pre6 enc Try.prog Try.f3 Rows.cellLinesRow.domain false) (Rows.cellLinesSpec.post enc Try.prog Try.f3 false true false false) := by
  refine returnsInHanded_of_change (C := Try.checked) own started (by kernel_rfl) Try.func3
    (ChangeSpec.witness6 (enc := enc) (C := Try.checked) false ⟨#[], #[.agg #[.int .i32 0, .int .i32 0], .agg #[.int .i32 0, .int .i32 0], .int .i64 0], []⟩ 8 (by kernel_rfl) (by kernel_rfl) (by kernel_rfl) (by kernel_rfl)) ?_
  intro W base args ds gs before hval0 hW hcnd _
  have hval : ∀ (j : Nat) t v, Try.f3.params[j]? = some t → args[j]? = some v → Value.okWide Try.prog W .any base t v := hval0
  have hW' := hW
  obtain ⟨p, q, hA, hV, rfl, hfz, hnd⟩ := hW
  rw [Try.params3] at hA hval
  obtain ⟨v0, v1, v2, d0, d1, d2, p0, p1, p2, hargs, rfl, rfl, h0, h1, h2⟩ := trodAll_three hA
  obtain ⟨rfl, rfl⟩ := trodVars_none hV
  have : args = #[v0, v1, v2] := by simpa using hargs
  subst this
  obtain ⟨fu0, l0, rfl, e0⟩ := open_agg Try.underlying23 (hval 0 23 v0 rfl rfl) h0
  obtain ⟨px, py, rfl, hpx, hpy⟩ := read_pt e0
  obtain ⟨fu1, l1, rfl, e1⟩ := open_agg Try.underlying23 (hval 1 23 v1 rfl rfl) h1
  obtain ⟨qx, qy, rfl, hqx, hqy⟩ := read_pt e1
  obtain ⟨s, rfl, _, _, ws⟩ := open_int Try.underlying2 (hval 2 2 v2 rfl rfl) h2
  refine (walk W px py qx qy s).mono fun e W' ⟨he, hg⟩ => ?_
  exact ⟨_, he, law_post (tb := 4) laidOut (by
    rw [Try.params3]; intro t ht; simp at ht
    rcases ht with rfl | rfl
    · exact ⟨by kernel_rfl, of_decide_eq_true (by kernel_rfl)⟩
    · exact ⟨by kernel_rfl, of_decide_eq_true (by kernel_rfl)⟩) rfl Try.underlying4 rfl hW' rfl hg⟩
theorem over : Rows.cellLinesRow.holds Try.pinned (OpenSpec.ofChange Rows.cellLinesSpec) :=
  OpenClaim.holds_of_wide 3 Try.f3 rfl rfl rfl rfl rfl rfl rfl ⟨rfl, rfl, rfl, rfl, rfl⟩ rfl rfl rfl rfl rfl (by kernel_rfl) Try.func3 (by kernel_rfl)
    (of_decide_eq_true (by kernel_rfl)) (by unfold Func.isWrapper; first | (rw [if_pos (by decide +kernel)]; kernel_rfl) | (rw [if_neg (by decide +kernel)]; exact ⟨rfl, rfl⟩))
    (fun os started H enc _ => lifted os started H enc)
/-- The statement CellLines. -/
theorem proved : Rows.CellLinesSaid := over
#print axioms proved

end cellLines
end Go.Proofs.Ythagbhiblncpkaa
