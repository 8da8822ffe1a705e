/-
  From of the document: a sender as it stood, by contracts.
-/
import Derived.Test.YtehdhdocalbfpaaPlayI
namespace Go.Proofs.Ytehdhdocalbfpaa
open Go.RowKit ring
set_option linter.unusedVariables false
attribute [local go_sem ↓] Go.wp_at_zero Go.wp_at_succ newVar56
attribute [local go_sem] ev_layEv_same can_new run_storeEv0 run_newEv run_newEv'

theorem rfrom_no2 (w : World) (a b c ac : Int) (p1 p2 : Option Addr) (l1 c1 l2 c2 : Nat) (h : a < 1 ∨ 32 < a ∨ b < 1 ∨ 1000 < b ∨ c < 1 ∨ 256 < c) : Calls Try.prog 63 #[.int .i64 a, .int .i64 b, .int .i64 c, .int .u64 ac, .slice p1 l1 c1, .slice p2 l2 c2] w fun e w' => e = .returned (.tuple #[.pointer none, .int .i64 2]) ∧ w = w' := by
  go_enter Try.func63, Try.ntmps63
  go_wp2
  all_goals first
    | (exfalso; omega)
    | (go_ret2; exact ⟨rfl, rfl⟩)
set_option maxRecDepth 100000 in
theorem rfrom_no3 (w : World) (win tmo most acked : Nat) (p1 p2 : Option Addr) (l1 c1 l2 c2 : Nat) (h1 : 1 ≤ win ∧ win ≤ 32) (h2 : 1 ≤ tmo ∧ tmo ≤ 1000) (h3 : 1 ≤ most ∧ most ≤ 256) (ha : acked < 18446744073709551616) (hl : l1 ≤ 70368744177664)
    (h : most < l1 ∨ l1 < l2 ∨ win < l2 ∨ 18446744073709551616 ≤ acked + l1) : Calls Try.prog 63 #[.int .i64 win, .int .i64 tmo, .int .i64 most, .int .u64 acked, .slice p1 l1 c1, .slice p2 l2 c2] w fun e w' => e = .returned (.tuple #[.pointer none, .int .i64 3]) ∧ w = w' := by
  have k1 : IntKind.u64.wrap (l1 : Int) = l1 := by rw [IntKind.wrap_u64]; omega
  have k2 : IntKind.u64.wrap ((18446744073709551615 : Int) - l1) = (18446744073709551615 : Int) - l1 := by rw [IntKind.wrap_u64]; omega
  go_enter Try.func63, Try.ntmps63
  go_wp2
  all_goals first
    | (exfalso; omega)
    | (go_ret2; exact ⟨rfl, rfl⟩)
theorem rfrom_a (w w1 w3 : World) (win tmo most acked : Nat) (rb : Nat) (v1 : Value) (L : List Ev) (hb : Blk w1 rb #[.int .i64 win, .int .i64 tmo, .int .i64 most, .int .u64 acked, .slice none 0 0, .slice none 0 0] 81) (f1 : Fr [] w w1) (hrb : w.heap.size ≤ rb)
    (ha : Appended w1 56 8 (.slice none 0 0) (0 + L.length) ([] ++ evs L) v1 w3) :
    (w3.cell? ⟨rb, 4, none⟩ = some (.slice none 0 0) ∧ w3.frozen? ⟨rb, 4, none⟩ = false ∧ (w3.setCell ⟨rb, 4, none⟩ v1).cell? ⟨rb, 5, none⟩ = some (.slice none 0 0)) ∧
      Blk (w3.setCell ⟨rb, 4, none⟩ v1) rb #[.int .i64 win, .int .i64 tmo, .int .i64 most, .int .u64 acked, v1, .slice none 0 0] 81 ∧ (w3.setCell ⟨rb, 4, none⟩ v1).ownsRow 0 56 8 v1 L.length (evs L) ∧ Fr [] w (w3.setCell ⟨rb, 4, none⟩ v1) ∧ (∀ g, v1.ownBlock = some g → w.heap.size ≤ g) := by
  have f3 := ha.fr
  have hb3 := f3.blk hb (by simp [Value.ownBlock])
  have hown := ha.own
  rw [Nat.zero_add, List.nil_append] at hown
  have f4 : Fr [rb] w3 (w3.setCell ⟨rb, 4, none⟩ v1) := (Fr.refl _ w3).setCell _ _ (.inl (by simp))
  refine ⟨⟨hb3.at 4 rfl, hb3.free 4, (hb3.set 4 v1).at 5 rfl⟩, hb3.set 4 v1, own_fr hown f4 (fun k hk hm => by simp at hm; subst hm; exact own_notin hown hb3 (by decide) (by simp [hk])), (f1.trans f3 (by simp [Value.ownBlock])).trans f4 (fun k hk => .inr (by simp at hk; subst hk; exact hrb)), fun k hk => ?_⟩
  rcases ha.place with hp | hp
  · rw [hp] at hk; simp [Value.ownBlock] at hk
  · rw [hp] at hk; simp at hk; have := f1.size; omega
theorem rfrom_b (w w1 w3 : World) (win tmo most acked : Nat) (rb : Nat) (v1 v2 : Value) (L : List Ev) (A : List Int) (hb : Blk w1 rb #[.int .i64 win, .int .i64 tmo, .int .i64 most, .int .u64 acked, v1, .slice none 0 0] 81) (ho : w1.ownsRow 0 56 8 v1 L.length (evs L)) (hn : ∀ g, v1.ownBlock = some g → w.heap.size ≤ g) (f1 : Fr [] w w1) (hrb : w.heap.size ≤ rb)
    (h1 : 1 ≤ win ∧ win ≤ 32) (h2 : 1 ≤ tmo ∧ tmo ≤ 1000) (h3 : 1 ≤ most ∧ most ≤ 256) (hA : acked + L.length < 18446744073709551616) (hl : L.length ≤ most) (hal : A.length ≤ L.length) (haw : A.length ≤ win)
    (ha : Appended w1 51 1 (.slice none 0 0) (0 + A.length) ([] ++ u32s A) v2 w3) :
    (w3.cell? ⟨rb, 5, none⟩ = some (.slice none 0 0) ∧ w3.frozen? ⟨rb, 5, none⟩ = false) ∧
      ∃ T, Ref (w3.setCell ⟨rb, 5, none⟩ v2) T rb win tmo most acked L A ∧ (∀ b ∈ T, w.heap.size ≤ b) ∧ Fr [] w (w3.setCell ⟨rb, 5, none⟩ v2) := by
  have f3 := ha.fr
  have hb3 := f3.blk hb (by simp [Value.ownBlock])
  have hown := ha.own
  rw [Nat.zero_add, List.nil_append] at hown
  have ho3 := own_fr ho f3 (by simp [Value.ownBlock])
  have f4 : Fr [rb] w3 (w3.setCell ⟨rb, 5, none⟩ v2) := (Fr.refl _ w3).setCell _ _ (.inl (by simp))
  refine ⟨⟨hb3.at 5 rfl, hb3.free 5⟩, _, ⟨⟨v1, v2, rfl, hb3.set 5 v2, own_fr ho3 f4 (fun k hk hm => by simp at hm; subst hm; exact own_notin ho3 hb3 (by decide) (by simp [hk])), own_fr hown f4 (fun k hk hm => by simp at hm; subst hm; exact own_notin hown hb3 (by decide) (by simp [hk]))⟩, hal, haw, hl, h1, h2, h3, hA⟩, fun b hb => ?_, (f1.trans f3 (by simp [Value.ownBlock])).trans f4 (fun k hk => .inr (by simp at hk; subst hk; exact hrb))⟩
  simp only [List.cons_append, List.nil_append, List.mem_cons, List.mem_append, Option.mem_toList] at hb
  rcases hb with rfl | hk | hk
  · exact hrb
  · exact hn _ hk
  · rcases ha.place with hp | hp
    · rw [hp] at hk; simp [Value.ownBlock] at hk
    · rw [hp] at hk; simp at hk; have := f1.size; omega
set_option maxRecDepth 100000 in
set_option maxHeartbeats 1000000 in
/-- From. -/
theorem rfrom_ok (w : World) (win tmo most acked : Nat) (bx av : Value) (L : List Ev) (A : List Int) (h1 : 1 ≤ win ∧ win ≤ 32) (h2 : 1 ≤ tmo ∧ tmo ≤ 1000) (h3 : 1 ≤ most ∧ most ≤ 256) (ha : acked + L.length < 18446744073709551616) (hl : L.length ≤ most) (hal : A.length ≤ L.length) (haw : A.length ≤ win)
    (hb : Src w bx L.length 8 (evs L)) (hv : Src w av A.length 1 (u32s A)) : Calls Try.prog 63 #[.int .i64 win, .int .i64 tmo, .int .i64 most, .int .u64 acked, bx, av] w fun e w' => ∃ T rb, e = .returned (.tuple #[.pointer (some ⟨rb, 0, none⟩), .int .i64 0]) ∧ Ref w' T rb win tmo most acked L A ∧ (∀ b ∈ T, w.heap.size ≤ b) ∧ Fr [] w w' := by
  obtain ⟨n, hn⟩ : ∃ n, n = L.length := ⟨_, rfl⟩
  obtain ⟨p, cb, hbx⟩ := hb.form
  obtain ⟨q, cv, hav⟩ := hv.form
  rw [← hn] at hbx
  subst hbx
  subst hav
  have h200 : n ≤ 256 := by omega
  have k1 : IntKind.u64.wrap (n : Int) = n := by rw [IntKind.wrap_u64]; omega
  have k2 : IntKind.u64.wrap ((18446744073709551615 : Int) - n) = (18446744073709551615 : Int) - n := by rw [IntKind.wrap_u64]; omega
  have d1 : decide ((win : Int) < 1) = false := by simp; omega
  have d2 : decide ((32 : Int) < win) = false := by simp; omega
  have d3 : decide ((tmo : Int) < 1) = false := by simp; omega
  have d4 : decide ((1000 : Int) < tmo) = false := by simp; omega
  have d5 : decide ((most : Int) < 1) = false := by simp; omega
  have d6 : decide ((256 : Int) < most) = false := by simp; omega
  have d7 : decide ((most : Int) < n) = false := by simp; omega
  have d8 : decide ((n : Int) < (A.length : Int)) = false := by simp; omega
  have d9 : decide ((win : Int) < (A.length : Int)) = false := by simp; omega
  have e7 : decide (most < n) = false := by simp; omega
  have e8 : decide (n < A.length) = false := by simp; omega
  have e9 : decide (win < A.length) = false := by simp; omega
  have d10 : decide ((18446744073709551615 : Int) - n < acked) = false := by simp; omega
  have HA := Lib.hid (And.intro h1 (And.intro h2 (And.intro h3 (And.intro ha (And.intro hl (And.intro hal haw))))))
  have fa := (Fr.refl [] w).alloc (.cells #[.int .i64 win, .int .i64 tmo, .int .i64 most, .int .u64 acked, .slice none 0 0, .slice none 0 0] 81)
  have hB := Blk.new w #[.int .i64 win, .int .i64 tmo, .int .i64 most, .int .u64 acked, .slice none 0 0, .slice none 0 0] 81
  have HB := Lib.hid (And.intro hB (And.intro fa (And.intro (Nat.le_refl w.heap.size) (And.intro (hb.fr0 fa) (And.intro hv hn)))))
  clear h1 h2 h3 ha hl hal haw hb hv hB fa hn
  go_enter Try.func63, Try.ntmps63
  go_wp2_with (first
    | (at_builtin; refine wpList_src _ rfl _ _ 42 rfl 56 Ev.zero.val 8 40 Try.underlying42 info56b rfl (by decide) (.slice none 0 0) 0 [] rfl (World.ownsRow_nil _ _ _ _) _ L.length (evs L) rfl HB.out.2.2.2.1 (evs_one _) (by have := HB.out.2.2.2.2.2; unfold maxLen; omega) (by have := HB.out.2.2.2.2.2; omega) ?_; intro v1 w3 happ; obtain ⟨⟨q1, q2, q3⟩, q4⟩ := rfrom_a w _ w3 win tmo most acked _ v1 L HB.out.1 HB.out.2.1 HB.out.2.2.1 happ; obtain ⟨p1, l1, cc1, rfl⟩ := own_slice happ.own; have HV := Lib.hid (HB.out.2.2.2.2.1.fr0 q4.2.2.1); have Q4 := Lib.hid q4; clear q4 happ)
    | (at_builtin; go_must (refine wpList_src _ rfl _ _ 43 rfl 51 (.int .u32 0) 1 4 Try.underlying43 info51 rfl (by decide) (.slice none 0 0) 0 [] rfl (World.ownsRow_nil _ _ _ _) _ A.length (u32s A) rfl HV.out (u32s_one _) (by have := HA.out; unfold maxLen; omega) (by have := HA.out; omega) ?_); intro v2 w4 happ; obtain ⟨h1, h2, h3, ha, hl, hal, haw⟩ := HA.out; obtain ⟨⟨q5, q6⟩, T, q7⟩ := rfrom_b w _ w4 win tmo most acked _ _ v2 L A Q4.out.1 Q4.out.2.1 Q4.out.2.2.2 Q4.out.2.2.1 HB.out.2.2.1 h1 h2 h3 ha hl hal haw happ; obtain ⟨p2, l2, cc2, rfl⟩ := own_slice happ.own; have Q7 := Lib.hid q7; clear q7 happ h1 h2 h3 ha hl hal haw))
  go_ret2
  exact ⟨T, _, rfl, Q7.out⟩

end Go.Proofs.Ytehdhdocalbfpaa
