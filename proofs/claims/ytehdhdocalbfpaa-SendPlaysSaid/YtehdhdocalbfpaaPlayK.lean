/-
  made: both senders, new or as they stood; by contracts. What was handed in is written over.
-/
import Derived.Test.YtehdhdocalbfpaaPlayJ
namespace Go.Proofs.Ytehdhdocalbfpaa
open Go.RowKit ring
set_option linter.unusedVariables false
attribute [local go_sem ↓] Go.wp_at_zero Go.wp_at_succ newVar56
attribute [local go_sem] ev_layEv_same can_new run_storeEv0 run_newEv run_newEv'

theorem own_lay {w : World} {g n cap : Nat} {xs : List Value} (h : w.ownsRow 0 56 8 (.slice (some ⟨g, 0, none⟩) n cap) n xs) (o : Nat) (e : Ev) : ∃ ys, (layEv w g o e).ownsRow 0 56 8 (.slice (some ⟨g, 0, none⟩) n cap) n ys :=
  ⟨_, ((((((((h.stored o (.int .u8 e.k)).1.stored (o + 1) (.int .u32 e.o)).1.stored (o + 2) (.int .u32 e.f)).1.stored (o + 3) (.int .u32 e.n)).1.stored (o + 4) (.int .i32 e.x)).1.stored (o + 5) (.int .i32 e.y)).1.stored (o + 6) (.int .u32 e.c)).1.stored (o + 7) (.float .f64 e.s)).1⟩
theorem own_can8 {w : World} {g n cap : Nat} {xs : List Value} (h : w.ownsRow 0 56 8 (.slice (some ⟨g, 0, none⟩) n cap) n xs) {i : Nat} (hi : i < n) : can8 w g (i * 8) = true := by
  refine List.all_eq_true.2 fun j hj => ?_
  have hj := List.mem_range.1 hj
  have hl := h.1
  have h2 := h.cells (g := g) rfl (i * 8 + j) (xs[i * 8 + j]'(by omega)) (List.getElem?_eq_getElem _)
  rw [Addr.add_lit, Nat.zero_add] at h2
  simp [h2, h.frozenAt (i * 8 + j)]
theorem own_c1 {w : World} {g n cap : Nat} {xs : List Value} (h : w.ownsRow 0 51 1 (.slice (some ⟨g, 0, none⟩) n cap) n xs) {i : Nat} (hi : i < n) : ∃ u, w.cell? ⟨g, i, none⟩ = some u := by
  have hl := h.1
  have h2 := h.cells (g := g) rfl i (xs[i]'(by omega)) (List.getElem?_eq_getElem _)
  rw [Addr.add_lit, Nat.zero_add] at h2
  exact ⟨_, h2⟩
theorem run_storeEv9 (w : World) (g o : Nat) : (storeEv ⟨g, o, none⟩ (.agg #[.int .u8 0, .int .u32 9999, .int .u32 0, .int .u32 0, .int .i32 0, .int .i32 0, .int .u32 0, .float .f64 0])).run Try.prog w = bif can8 w g o then .ok () (layEv w g o ⟨0, 9999, 0, 0, 0, 0, 0, 0⟩) else (storeEv' ⟨g, o, none⟩ (Ev.val ⟨0, 9999, 0, 0, 0, 0, 0, 0⟩)).run Try.prog w := run_storeEv w g o ⟨0, 9999, 0, 0, 0, 0, 0, 0⟩

theorem made_new_no (w : World) (a b c ac : Int) (p1 p2 : Option Addr) (l1 c1 l2 c2 : Nat) (h : a < 1 ∨ 32 < a ∨ b < 1 ∨ 1000 < b ∨ c < 1 ∨ 256 < c) : Calls Try.prog 27 #[.agg #[.bool false, .int .i64 a, .int .i64 b, .int .i64 c, .int .u64 ac, .slice p1 l1 c1, .slice p2 l2 c2]] w fun e w' => e = .returned (.tuple #[.pointer none, .pointer none, .bool true]) ∧ Fr [] w w' := by
  have fa := (Fr.refl [] w).alloc (.cells #[.bool false, .int .i64 a, .int .i64 b, .int .i64 c, .int .u64 ac, .slice p1 l1 c1, .slice p2 l2 c2] 45)
  have hB := Blk.new w #[.bool false, .int .i64 a, .int .i64 b, .int .i64 c, .int .u64 ac, .slice p1 l1 c1, .slice p2 l2 c2] 45
  have d0 := hB.at 0 (v := .bool false) rfl
  have d1 := hB.at 1 (v := .int .i64 a) rfl
  have d2 := hB.at 2 (v := .int .i64 b) rfl
  have d3 := hB.at 3 (v := .int .i64 c) rfl
  have HF := Lib.hid fa
  have hn := Lib.hid (snew_no (w.alloc (.cells #[.bool false, .int .i64 a, .int .i64 b, .int .i64 c, .int .u64 ac, .slice p1 l1 c1, .slice p2 l2 c2] 45)) a b c h)
  have hr := Lib.hid (rfrom_no2 (w.alloc (.cells #[.bool false, .int .i64 a, .int .i64 b, .int .i64 c, .int .u64 ac, .slice p1 l1 c1, .slice p2 l2 c2] 45)) a b c 0 none none 0 0 0 0 h)
  clear h fa hB
  go_enter Try.func27, Try.ntmps27
  go_wp2_with (first
    | (go_at_call 16; refine hn.out.mono ?_; rintro e w1 ⟨rfl, rfl⟩)
    | (go_at_call 63; refine hr.out.mono ?_; rintro e w1 ⟨rfl, rfl⟩))
  go_ret3
  exact ⟨rfl, HF.out⟩
/-- Both senders stand, in new memory, apart. -/
def Both (w w' : World) (S T : List Nat) (sb rb win tmo most acked : Nat) (L : List Ev) (A : List Int) : Prop :=
  Snd w' S sb win tmo most acked L A ∧ Ref w' T rb win tmo most acked L A ∧ (∀ b ∈ S, w.heap.size ≤ b) ∧ (∀ b ∈ T, w.heap.size ≤ b) ∧ (∀ b ∈ S, b ∉ T) ∧ Fr [] w w'
theorem both_of {w w1 w2 : World} {S T : List Nat} {sb rb win tmo most acked : Nat} {L : List Ev} {A : List Int} (f1 : Fr [] w w1) (s1 : Snd w1 S sb win tmo most acked L A) (fs : ∀ b ∈ S, w.heap.size ≤ b) (r2 : Ref w2 T rb win tmo most acked L A) (ft : ∀ b ∈ T, w1.heap.size ≤ b) (f2 : Fr [] w1 w2) : Both w w2 S T sb rb win tmo most acked L A :=
  ⟨s1.fr0 f2, r2, fs, fun b hb => Nat.le_trans f1.size (ft b hb), fun b hb hm => by have := s1.lt_size b hb; have := ft b hm; omega, f1.trans f2 (by simp)⟩
theorem Both.then0 {w w1 w2 : World} {S T : List Nat} {sb rb win tmo most acked : Nat} {L : List Ev} {A : List Int} (h : Both w w1 S T sb rb win tmo most acked L A) (f : Fr [] w1 w2) : Both w w2 S T sb rb win tmo most acked L A :=
  ⟨h.1.fr0 f, h.2.1.fr0 f, h.2.2.1, h.2.2.2.1, h.2.2.2.2.1, h.2.2.2.2.2.trans f (by simp)⟩
theorem Both.pre {w0 w w1 : World} {S T : List Nat} {sb rb win tmo most acked : Nat} {L : List Ev} {A : List Int} (f : Fr [] w0 w) (h : Both w w1 S T sb rb win tmo most acked L A) : Both w0 w1 S T sb rb win tmo most acked L A :=
  ⟨h.1, h.2.1, fun b hb => Nat.le_trans f.size (h.2.2.1 b hb), fun b hb => Nat.le_trans f.size (h.2.2.2.1 b hb), h.2.2.2.2.1, f.trans h.2.2.2.2.2 (by simp)⟩
set_option maxRecDepth 100000 in
theorem made_new_ok (w : World) (win tmo most : Nat) (ac : Int) (p1 p2 : Option Addr) (l1 c1 l2 c2 : Nat) (h1 : 1 ≤ win ∧ win ≤ 32) (h2 : 1 ≤ tmo ∧ tmo ≤ 1000) (h3 : 1 ≤ most ∧ most ≤ 256) : Calls Try.prog 27 #[.agg #[.bool false, .int .i64 win, .int .i64 tmo, .int .i64 most, .int .u64 ac, .slice p1 l1 c1, .slice p2 l2 c2]] w fun e w' => ∃ S T sb rb, e = .returned (.tuple #[.pointer (some ⟨sb, 0, none⟩), .pointer (some ⟨rb, 0, none⟩), .bool true]) ∧ Both w w' S T sb rb win tmo most 0 [] [] := by
  have fa := (Fr.refl [] w).alloc (.cells #[.bool false, .int .i64 win, .int .i64 tmo, .int .i64 most, .int .u64 ac, .slice p1 l1 c1, .slice p2 l2 c2] 45)
  have hB := Blk.new w #[.bool false, .int .i64 win, .int .i64 tmo, .int .i64 most, .int .u64 ac, .slice p1 l1 c1, .slice p2 l2 c2] 45
  have d0 := hB.at 0 (v := .bool false) rfl
  have d1 := hB.at 1 (v := .int .i64 win) rfl
  have d2 := hB.at 2 (v := .int .i64 tmo) rfl
  have d3 := hB.at 3 (v := .int .i64 most) rfl
  have HF := Lib.hid (And.intro fa (And.intro hB (And.intro h1 (And.intro h2 h3))))
  have hn := Lib.hid (snew_ok (w.alloc (.cells #[.bool false, .int .i64 win, .int .i64 tmo, .int .i64 most, .int .u64 ac, .slice p1 l1 c1, .slice p2 l2 c2] 45)) win tmo most h1 h2 h3)
  clear h1 h2 h3 fa hB
  go_enter Try.func27, Try.ntmps27
  go_wp2_with (first
    | (go_at_call 16; refine hn.out.mono ?_; rintro e w1 ⟨S, sb, rfl, s1, fs, f1⟩; have hB2 := f1.blk HF.out.2.1 (by simp); have e1 := hB2.at 1 (v := .int .i64 win) rfl; have e2 := hB2.at 2 (v := .int .i64 tmo) rfl; have e3 := hB2.at 3 (v := .int .i64 most) rfl; have H1 := Lib.hid (And.intro s1 (And.intro fs f1)); clear s1 fs f1 hB2)
    | (go_at_call 63; refine (rfrom_ok _ win tmo most 0 (.slice none 0 0) (.slice none 0 0) [] [] HF.out.2.2.1 HF.out.2.2.2.1 HF.out.2.2.2.2 (by simp) (by simp) (by simp) (by simp) (.inl ⟨rfl, rfl, rfl⟩) (.inl ⟨rfl, rfl, rfl⟩)).mono ?_; rintro e w2 ⟨T, rb, rfl, r2, ft, f2⟩; have H2 := Lib.hid (And.intro r2 (And.intro ft f2)); clear r2 ft f2))
  go_ret3
  exact ⟨S, T, sb, rb, rfl, Both.pre HF.out.1 (both_of H1.out.2.2 H1.out.1 H1.out.2.1 H2.out.1 H2.out.2.1 H2.out.2.2)⟩

end Go.Proofs.Ytehdhdocalbfpaa
