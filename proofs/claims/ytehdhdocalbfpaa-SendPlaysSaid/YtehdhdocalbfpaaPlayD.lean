/-
  The document's sender: Ack, by contracts.
-/
import Derived.Test.YtehdhdocalbfpaaPlayC
namespace Go.Proofs.Ytehdhdocalbfpaa
open Go.RowKit ring
set_option linter.unusedVariables false
attribute [local go_sem ↓] Go.wp_at_zero Go.wp_at_succ newVar56
attribute [local go_sem] ev_layEv_same can_new run_storeEv0 run_newEv run_newEv'

theorem evs_drop (L : List Ev) : ∀ n, evs (L.drop n) = (evs L).drop (n * 8) := by
  induction L with
  | nil => intro n; simp [evs]
  | cons a l ih =>
    intro n
    cases n with
    | zero => simp
    | succ n =>
      have h1 : evs (a :: l) = a.cells ++ evs l := by simp [evs]
      rw [List.drop_succ_cons, ih n, h1, show (n + 1) * 8 = a.cells.length + n * 8 by simp [Ev.cells]; omega, List.drop_length_add_append]
section
variable (w : World) (T : List Nat) (rb win tmo most acked : Nat) (L : List Ev) (A : List Int)
set_option maxRecDepth 100000 in
theorem rack_no (k : Int) (h : Ref w T rb win tmo most acked L A) (hk : k ≤ acked ∨ (acked : Int) + A.length < k) : Calls Try.prog 31 #[.pointer (some ⟨rb, 0, none⟩), .int .u64 k] w fun e w' => e = .returned (.bool false) ∧ RefTo w T w' rb win tmo most acked L A := by
  have HH := Lib.hid h
  have hs := Lib.hid (ref_sent w T rb win tmo most acked L A h)
  obtain ⟨bv, av, hT, hb, o1, o2⟩ := h.ex
  have c3 := hb.at 3 (v := .int .u64 acked) rfl
  by_cases h1 : k ≤ acked
  · clear h hT hb o1 o2 hk
    go_enter Try.func31, Try.ntmps31
    go_wp2_with (go_at_call 67; refine hs.out.mono ?_; rintro e w1 ⟨rfl, m, rfl⟩)
    go_ret
    exact ⟨rfl, RefTo.same HH.out (Fr.refl _ _)⟩
  · have h2 : (acked : Int) + A.length < k := hk.resolve_left h1
    clear h hT hb o1 o2 hk
    go_enter Try.func31, Try.ntmps31
    go_wp2_with (go_at_call 67; refine hs.out.mono ?_; rintro e w1 ⟨rfl, m, rfl⟩)
    go_ret
    exact ⟨rfl, RefTo.same HH.out ((Fr.refl _ _).drewN _)⟩
/-- Behind the first append. -/
theorem rack_mid (n : Nat) (W w1 : World) (bv av v1 : Value) (hb : Blk w rb #[.int .i64 win, .int .i64 tmo, .int .i64 most, .int .u64 acked, bv, av] 81) (o2 : w.ownsRow 0 51 1 av A.length (u32s A)) (f : Fr [] w W)
    (ha : Appended W 56 8 (.slice none 0 0) (0 + (L.length - n)) ([] ++ evs (L.drop n)) v1 w1) :
    (w1.cell? ⟨rb, 4, none⟩ = some bv ∧ w1.frozen? ⟨rb, 4, none⟩ = false) ∧ Blk (w1.setCell ⟨rb, 4, none⟩ v1) rb #[.int .i64 win, .int .i64 tmo, .int .i64 most, .int .u64 acked, v1, av] 81 ∧ (w1.setCell ⟨rb, 4, none⟩ v1).ownsRow 0 56 8 v1 (L.drop n).length (evs (L.drop n)) ∧
      (w1.setCell ⟨rb, 4, none⟩ v1).ownsRow 0 51 1 av A.length (u32s A) ∧ Fr [rb] w (w1.setCell ⟨rb, 4, none⟩ v1) ∧ (∀ g, v1.ownBlock = some g → w.heap.size ≤ g) := by
  have f1 : Fr [] w w1 := f.trans (ha.fr.mono (T := []) (by simp [Value.ownBlock])) (by simp)
  have hb1 := f1.blk hb (by simp)
  have o21 := own_fr o2 f1 (by simp)
  have hn : ∀ g, v1.ownBlock = some g → w.heap.size ≤ g := fun g hg => by
    rcases ha.place with hp | hp
    · rw [hp] at hg; simp [Value.ownBlock] at hg
    · rw [hp] at hg; simp at hg; have := f.size; omega
  have f2 : Fr [rb] w1 (w1.setCell ⟨rb, 4, none⟩ v1) := (Fr.refl _ w1).setCell _ _ (.inl (by simp))
  have h1 := ha.own
  rw [Nat.zero_add, List.nil_append, ← List.length_drop] at h1
  refine ⟨⟨hb1.at 4 rfl, hb1.free 4⟩, hb1.set 4 v1, own_fr h1 f2 (fun g hg hm => ?_), own_fr o21 f2 (fun g hg hm => ?_), (f1.mono (T := [rb]) (by simp)).trans f2 (fun b hb => .inl hb), hn⟩
  · simp at hm; subst hm; have := hn _ hg; have := hb.lt; omega
  · simp at hm; subst hm; exact own_notin o21 hb1 (by decide) (by simp [hg])
theorem rack_fin (n : Nat) (w2 w3 : World) (av v1 v2 : Value) (bv : Value) (h : Ref w T rb win tmo most acked L A) (hT : T = [rb] ++ bv.ownBlock.toList ++ av.ownBlock.toList) (hn : n ≤ A.length)
    (hb : Blk w2 rb #[.int .i64 win, .int .i64 tmo, .int .i64 most, .int .u64 acked, v1, av] 81) (o1 : w2.ownsRow 0 56 8 v1 (L.drop n).length (evs (L.drop n))) (f : Fr [rb] w w2) (hn1 : ∀ g, v1.ownBlock = some g → w.heap.size ≤ g)
    (ha : Appended w2 51 1 (.slice none 0 0) (0 + (A.length - n)) ([] ++ u32s (A.drop n)) v2 w3) :
    (w3.cell? ⟨rb, 5, none⟩ = some av ∧ w3.frozen? ⟨rb, 5, none⟩ = false ∧ w3.cell? ⟨rb, 3, none⟩ = some (.int .u64 acked) ∧ w3.frozen? ⟨rb, 3, none⟩ = false) ∧ RefTo w T ((w3.setCell ⟨rb, 5, none⟩ v2).setCell ⟨rb, 3, none⟩ (.int .u64 ((acked : Int) + n))) rb win tmo most (acked + n) (L.drop n) (A.drop n) := by
  have f3 : Fr [] w2 w3 := ha.fr.mono (T := []) (by simp [Value.ownBlock])
  have hb3 := f3.blk hb (by simp)
  have o13 := own_fr o1 f3 (by simp)
  have hn2 : ∀ g, v2.ownBlock = some g → w2.heap.size ≤ g := fun g hg => by
    rcases ha.place with hp | hp
    · rw [hp] at hg; simp [Value.ownBlock] at hg
    · rw [hp] at hg; simp at hg; omega
  have f4 : Fr [rb] w3 ((w3.setCell ⟨rb, 5, none⟩ v2).setCell ⟨rb, 3, none⟩ (.int .u64 ((acked : Int) + n))) := ((Fr.refl _ w3).setCell _ _ (.inl (by simp))).setCell _ _ (.inl (by simp))
  have h2 := ha.own
  rw [Nat.zero_add, List.nil_append, ← List.length_drop] at h2
  have hal := h.al
  have hll := h.ll
  have haw := h.aw
  have hla := h.la
  refine ⟨⟨hb3.at 5 rfl, hb3.free 5, hb3.at 3 rfl, hb3.free 3⟩, [rb] ++ v1.ownBlock.toList ++ v2.ownBlock.toList, ⟨⟨v1, v2, rfl, (hb3.set 5 v2).set 3 _, own_fr o13 f4 (fun g hg hm => ?_), own_fr h2 f4 (fun g hg hm => ?_)⟩, by rw [List.length_drop, List.length_drop]; omega, by rw [List.length_drop]; omega, by rw [List.length_drop]; omega, h.lw, h.lt, h.lm, by rw [List.length_drop]; omega⟩, fun g hg => ?_, ?_⟩
  · simp at hm; subst hm; exact own_notin o13 hb3 (by decide) (by simp [hg])
  · simp at hm; subst hm; exact own_notin h2 hb3 (by decide) (by simp [hg])
  · simp only [List.cons_append, List.nil_append, List.mem_cons, List.mem_append, Option.mem_toList] at hg
    rcases hg with rfl | hg | hg
    · left; rw [hT]; simp
    · exact .inr (hn1 g hg)
    · right; have := hn2 g hg; have := f.size; omega
  · refine (((f.mono (T := T) (fun g hg => .inl ?_)).trans f3 (by simp)).trans f4 (fun g hg => .inl ?_))
    · rw [hT]; simp at hg; simp [hg]
    · rw [hT]; simp at hg; simp [hg]
set_option maxRecDepth 100000 in
set_option maxHeartbeats 1000000 in
theorem rack_yes (n : Nat) (h : Ref w T rb win tmo most acked L A) (h1 : 1 ≤ n) (hn : n ≤ A.length) : Calls Try.prog 31 #[.pointer (some ⟨rb, 0, none⟩), .int .u64 ((acked : Int) + n)] w fun e w' => e = .returned (.bool true) ∧ RefTo w T w' rb win tmo most (acked + n) (L.drop n) (A.drop n) := by
  have hal := h.al
  have haw := h.aw
  have hll := h.ll
  have hlm := h.lm
  have hla := h.la
  have hs := Lib.hid (ref_sent w T rb win tmo most acked L A h)
  obtain ⟨bv, av, hT, hb, o1, o2⟩ := h.ex
  obtain ⟨o, cap, rfl⟩ : ∃ o cap, av = .slice (some ⟨o, 0, none⟩) A.length cap := by
    rcases o2.2 with ⟨_, h9⟩ | ⟨g, cap9, cur, h9, _⟩
    · omega
    · exact ⟨g, cap9, h9⟩
  obtain ⟨p, cb, rfl⟩ : ∃ p cb, bv = .slice (some ⟨p, 0, none⟩) L.length cb := by
    rcases o1.2 with ⟨_, h9⟩ | ⟨g, cap9, cur, h9, _⟩
    · omega
    · exact ⟨g, cap9, h9⟩
  have hcA : A.length ≤ cap := by
    rcases o2.2 with ⟨h5, _⟩ | ⟨g5, cap5, cur5, h5, _, _, h6, _⟩
    · simp at h5
    · simp at h5; omega
  have hcB : L.length ≤ cb := by
    rcases o1.2 with ⟨h5, _⟩ | ⟨g5, cap5, cur5, h5, _, _, h6, _⟩
    · simp at h5
    · simp at h5; omega
  have c3 := hb.at 3 (v := .int .u64 acked) rfl
  have c4 := hb.at 4 (v := .slice (some ⟨p, 0, none⟩) L.length cb) rfl
  have H0 := Lib.hid (And.intro h (And.intro hT (And.intro hb (And.intro o1 o2))))
  have i1 : ¬ (acked : Int) + n ≤ acked := by omega
  have i2 : ¬ (acked : Int) + A.length < (acked : Int) + n := by omega
  have k1 : IntKind.u64.wrap ((acked : Int) + n - acked) = n := by rw [IntKind.wrap_u64]; omega
  have k2 : IntKind.i64.wrap (n : Int) = n := by rw [IntKind.wrap_i64]; omega
  have j1 : (0 : Int) ≤ (n : Int) := by omega
  have j2 : (n : Int) ≤ (A.length : Int) := by omega
  have j3 : (n : Int) ≤ (L.length : Int) := by omega
  have HD := Lib.hid (show (evs (L.drop n)).length = (L.length - n) * 8 by rw [evs_len, List.length_drop])
  have HD2 := Lib.hid (show (u32s (A.drop n)).length = (A.length - n) * 1 by rw [u32s_len, List.length_drop, Nat.mul_one])
  have HN := Lib.hid (And.intro hcA (And.intro hcB (And.intro hal (And.intro hll (And.intro hlm (And.intro haw hla))))))
  clear h hT hb o1 o2 hal haw hll hlm hla
  by_cases hb1 : n < cb
  · have j4 : (n : Int) < (cb : Int) := by omega
    have j5 : n ≠ cb := by omega
    have j6 : cb - n ≠ 0 := by omega
    by_cases ha1 : n < cap
    · have j7 : (n : Int) < (cap : Int) := by omega
      have j8 : n ≠ cap := by omega
      have j9 : cap - n ≠ 0 := by omega
      go_enter Try.func31, Try.ntmps31
      go_wp2_with (first
        | (go_at_call 67; refine hs.out.mono ?_; rintro e w1 ⟨rfl, m, rfl⟩; have hnews1 : ∀ j u, (evs (L.drop n))[j]? = some u → (w.drewN m).cell? ((⟨p, n * 8, none⟩ : Addr).add j) = some u := (fun j u hj => by rw [evs_drop, List.getElem?_drop] at hj; have := (own_fr H0.out.2.2.2.1 ((Fr.refl [] w).drewN m) (by simp)).cells (g := p) rfl (n * 8 + j) u hj; rw [Addr.add_mid] at this ⊢; simpa using this); have HN1 := Lib.hid hnews1; clear hnews1)
        | (at_builtin; refine wpList_app _ rfl _ _ 42 rfl 56 Ev.zero.val 8 40 Try.underlying42 info56b rfl (by decide) (.slice none 0 0) 0 [] rfl (World.ownsRow_nil _ _ _ _) ⟨p, n * 8, none⟩ (L.length - n) _ (evs (L.drop n)) rfl HD.out HN1.out (evs_one _) (by have := HN.out; unfold maxLen; omega) (by have := HN.out; omega) ?_; intro v1 w2 happ; obtain ⟨⟨q1, q2⟩, hb2, o12, o22, f2, hn1⟩ := rack_mid w rb win tmo most acked L A n _ w2 _ _ v1 H0.out.2.2.1 H0.out.2.2.2.2 ((Fr.refl [] w).drewN _) happ; obtain ⟨p1, l1, cc1, rfl⟩ := own_slice happ.own; have c5 := hb2.at 5 rfl; have hnews2 : ∀ j u, (u32s (A.drop n))[j]? = some u → (w2.setCell ⟨rb, 4, none⟩ (.slice p1 l1 cc1)).cell? ((⟨o, n, none⟩ : Addr).add j) = some u := (fun j u hj => by have h3 : (u32s A)[n + j]? = some u := (by simp only [u32s, List.getElem?_map, List.getElem?_drop] at hj ⊢; exact hj); have := o22.cells (g := o) rfl (n + j) u h3; rw [Addr.add_mid] at this ⊢; simpa using this); have HN2 := Lib.hid (And.intro hnews2 (And.intro hb2 (And.intro o12 (And.intro f2 hn1)))); clear hnews2 hb2 o12 o22 f2 hn1 happ)
        | (at_builtin; refine wpList_app _ rfl _ _ 43 rfl 51 (.int .u32 0) 1 4 Try.underlying43 info51 rfl (by decide) (.slice none 0 0) 0 [] rfl (World.ownsRow_nil _ _ _ _) ⟨o, n, none⟩ (A.length - n) _ (u32s (A.drop n)) rfl HD2.out HN2.out.1 (u32s_one _) (by have := HN.out; unfold maxLen; omega) (by have := HN.out; omega) ?_; intro v2 w3 happ; obtain ⟨⟨q1, q2, q3, q4⟩, q5⟩ := rack_fin w T rb win tmo most acked L A n _ w3 _ _ v2 _ H0.out.1 H0.out.2.1 hn HN2.out.2.1 HN2.out.2.2.1 HN2.out.2.2.2.1 HN2.out.2.2.2.2 happ; obtain ⟨p2, l2, cc2, rfl⟩ := own_slice happ.own; have Q5 := Lib.hid q5; clear q5 happ))
      go_ret
      exact ⟨rfl, Q5.out⟩
    · obtain rfl : n = cap := by omega
      have HE2 := Lib.hid (show n = A.length by omega)
      have HZ2 := Lib.hid (show u32s (A.drop n) = [] by rw [List.drop_of_length_le (by omega)]; rfl)
      go_enter Try.func31, Try.ntmps31
      go_wp2_with (first
        | (go_at_call 67; refine hs.out.mono ?_; rintro e w1 ⟨rfl, m, rfl⟩; have hnews1 : ∀ j u, (evs (L.drop n))[j]? = some u → (w.drewN m).cell? ((⟨p, n * 8, none⟩ : Addr).add j) = some u := (fun j u hj => by rw [evs_drop, List.getElem?_drop] at hj; have := (own_fr H0.out.2.2.2.1 ((Fr.refl [] w).drewN m) (by simp)).cells (g := p) rfl (n * 8 + j) u hj; rw [Addr.add_mid] at this ⊢; simpa using this); have HN1 := Lib.hid hnews1; clear hnews1)
        | (at_builtin; refine wpList_app _ rfl _ _ 42 rfl 56 Ev.zero.val 8 40 Try.underlying42 info56b rfl (by decide) (.slice none 0 0) 0 [] rfl (World.ownsRow_nil _ _ _ _) ⟨p, n * 8, none⟩ (L.length - n) _ (evs (L.drop n)) rfl HD.out HN1.out (evs_one _) (by have := HN.out; unfold maxLen; omega) (by have := HN.out; omega) ?_; intro v1 w2 happ; obtain ⟨⟨q1, q2⟩, hb2, o12, o22, f2, hn1⟩ := rack_mid w rb win tmo most acked L A n _ w2 _ _ v1 H0.out.2.2.1 H0.out.2.2.2.2 ((Fr.refl [] w).drewN _) happ; obtain ⟨p1, l1, cc1, rfl⟩ := own_slice happ.own; have c5 := hb2.at 5 rfl; have hnews2 : ∀ j u, ([] : List Value)[j]? = some u → (w2.setCell ⟨rb, 4, none⟩ (.slice p1 l1 cc1)).cell? ((⟨o, 0, none⟩ : Addr).add j) = some u := (by simp); have HN2 := Lib.hid (And.intro hnews2 (And.intro hb2 (And.intro o12 (And.intro f2 hn1)))); clear hnews2 hb2 o12 o22 f2 hn1 happ)
        | (at_builtin; refine wpList_app _ rfl _ _ 43 rfl 51 (.int .u32 0) 1 4 Try.underlying43 info51 rfl (by decide) (.slice none 0 0) 0 [] rfl (World.ownsRow_nil _ _ _ _) ⟨o, 0, none⟩ _ _ ([] : List Value) rfl (by first | rfl | (have := HE2.out; simp; omega)) HN2.out.1 (by simp) (by have := HN.out; unfold maxLen; omega) (by have := HN.out; omega) ?_; intro v2 w3 happ; obtain ⟨⟨q1, q2, q3, q4⟩, q5⟩ := rack_fin w T rb win tmo most acked L A n _ w3 _ _ v2 _ H0.out.1 H0.out.2.1 hn HN2.out.2.1 HN2.out.2.2.1 HN2.out.2.2.2.1 HN2.out.2.2.2.2 (by rw [HZ2.out]; first | exact happ | (rw [show A.length - n = 0 by have := HE2.out; omega]; exact happ)); obtain ⟨p2, l2, cc2, rfl⟩ := own_slice happ.own; have Q5 := Lib.hid q5; clear q5 happ))
      go_ret
      exact ⟨rfl, Q5.out⟩
  · obtain rfl : n = cb := by omega
    have HE1 := Lib.hid (show n = L.length by omega)
    have HZ1 := Lib.hid (show evs (L.drop n) = [] by rw [List.drop_of_length_le (by omega)]; rfl)
    by_cases ha1 : n < cap
    · have j7 : (n : Int) < (cap : Int) := by omega
      have j8 : n ≠ cap := by omega
      have j9 : cap - n ≠ 0 := by omega
      go_enter Try.func31, Try.ntmps31
      go_wp2_with (first
        | (go_at_call 67; refine hs.out.mono ?_; rintro e w1 ⟨rfl, m, rfl⟩; have hnews1 : ∀ j u, ([] : List Value)[j]? = some u → (w.drewN m).cell? ((⟨p, 0, none⟩ : Addr).add j) = some u := (by simp); have HN1 := Lib.hid hnews1; clear hnews1)
        | (at_builtin; refine wpList_app _ rfl _ _ 42 rfl 56 Ev.zero.val 8 40 Try.underlying42 info56b rfl (by decide) (.slice none 0 0) 0 [] rfl (World.ownsRow_nil _ _ _ _) ⟨p, 0, none⟩ _ _ ([] : List Value) rfl (by first | rfl | (have := HE1.out; simp; omega)) HN1.out (by simp) (by have := HN.out; unfold maxLen; omega) (by have := HN.out; omega) ?_; intro v1 w2 happ; obtain ⟨⟨q1, q2⟩, hb2, o12, o22, f2, hn1⟩ := rack_mid w rb win tmo most acked L A n _ w2 _ _ v1 H0.out.2.2.1 H0.out.2.2.2.2 ((Fr.refl [] w).drewN _) (by rw [HZ1.out]; first | exact happ | (rw [show L.length - n = 0 by have := HE1.out; omega]; exact happ)); obtain ⟨p1, l1, cc1, rfl⟩ := own_slice happ.own; have c5 := hb2.at 5 rfl; have hnews2 : ∀ j u, (u32s (A.drop n))[j]? = some u → (w2.setCell ⟨rb, 4, none⟩ (.slice p1 l1 cc1)).cell? ((⟨o, n, none⟩ : Addr).add j) = some u := (fun j u hj => by have h3 : (u32s A)[n + j]? = some u := (by simp only [u32s, List.getElem?_map, List.getElem?_drop] at hj ⊢; exact hj); have := o22.cells (g := o) rfl (n + j) u h3; rw [Addr.add_mid] at this ⊢; simpa using this); have HN2 := Lib.hid (And.intro hnews2 (And.intro hb2 (And.intro o12 (And.intro f2 hn1)))); clear hnews2 hb2 o12 o22 f2 hn1 happ)
        | (at_builtin; refine wpList_app _ rfl _ _ 43 rfl 51 (.int .u32 0) 1 4 Try.underlying43 info51 rfl (by decide) (.slice none 0 0) 0 [] rfl (World.ownsRow_nil _ _ _ _) ⟨o, n, none⟩ (A.length - n) _ (u32s (A.drop n)) rfl HD2.out HN2.out.1 (u32s_one _) (by have := HN.out; unfold maxLen; omega) (by have := HN.out; omega) ?_; intro v2 w3 happ; obtain ⟨⟨q1, q2, q3, q4⟩, q5⟩ := rack_fin w T rb win tmo most acked L A n _ w3 _ _ v2 _ H0.out.1 H0.out.2.1 hn HN2.out.2.1 HN2.out.2.2.1 HN2.out.2.2.2.1 HN2.out.2.2.2.2 happ; obtain ⟨p2, l2, cc2, rfl⟩ := own_slice happ.own; have Q5 := Lib.hid q5; clear q5 happ))
      go_ret
      exact ⟨rfl, Q5.out⟩
    · obtain rfl : n = cap := by omega
      have HE2 := Lib.hid (show n = A.length by omega)
      have HZ2 := Lib.hid (show u32s (A.drop n) = [] by rw [List.drop_of_length_le (by omega)]; rfl)
      go_enter Try.func31, Try.ntmps31
      go_wp2_with (first
        | (go_at_call 67; refine hs.out.mono ?_; rintro e w1 ⟨rfl, m, rfl⟩; have hnews1 : ∀ j u, ([] : List Value)[j]? = some u → (w.drewN m).cell? ((⟨p, 0, none⟩ : Addr).add j) = some u := (by simp); have HN1 := Lib.hid hnews1; clear hnews1)
        | (at_builtin; refine wpList_app _ rfl _ _ 42 rfl 56 Ev.zero.val 8 40 Try.underlying42 info56b rfl (by decide) (.slice none 0 0) 0 [] rfl (World.ownsRow_nil _ _ _ _) ⟨p, 0, none⟩ _ _ ([] : List Value) rfl (by first | rfl | (have := HE1.out; simp; omega)) HN1.out (by simp) (by have := HN.out; unfold maxLen; omega) (by have := HN.out; omega) ?_; intro v1 w2 happ; obtain ⟨⟨q1, q2⟩, hb2, o12, o22, f2, hn1⟩ := rack_mid w rb win tmo most acked L A n _ w2 _ _ v1 H0.out.2.2.1 H0.out.2.2.2.2 ((Fr.refl [] w).drewN _) (by rw [HZ1.out]; first | exact happ | (rw [show L.length - n = 0 by have := HE1.out; omega]; exact happ)); obtain ⟨p1, l1, cc1, rfl⟩ := own_slice happ.own; have c5 := hb2.at 5 rfl; have hnews2 : ∀ j u, ([] : List Value)[j]? = some u → (w2.setCell ⟨rb, 4, none⟩ (.slice p1 l1 cc1)).cell? ((⟨o, 0, none⟩ : Addr).add j) = some u := (by simp); have HN2 := Lib.hid (And.intro hnews2 (And.intro hb2 (And.intro o12 (And.intro f2 hn1)))); clear hnews2 hb2 o12 o22 f2 hn1 happ)
        | (at_builtin; refine wpList_app _ rfl _ _ 43 rfl 51 (.int .u32 0) 1 4 Try.underlying43 info51 rfl (by decide) (.slice none 0 0) 0 [] rfl (World.ownsRow_nil _ _ _ _) ⟨o, 0, none⟩ _ _ ([] : List Value) rfl (by first | rfl | (have := HE2.out; simp; omega)) HN2.out.1 (by simp) (by have := HN.out; unfold maxLen; omega) (by have := HN.out; omega) ?_; intro v2 w3 happ; obtain ⟨⟨q1, q2, q3, q4⟩, q5⟩ := rack_fin w T rb win tmo most acked L A n _ w3 _ _ v2 _ H0.out.1 H0.out.2.1 hn HN2.out.2.1 HN2.out.2.2.1 HN2.out.2.2.2.1 HN2.out.2.2.2.2 (by rw [HZ2.out]; first | exact happ | (rw [show A.length - n = 0 by have := HE2.out; omega]; exact happ)); obtain ⟨p2, l2, cc2, rfl⟩ := own_slice happ.own; have Q5 := Lib.hid q5; clear q5 happ))
      go_ret
      exact ⟨rfl, Q5.out⟩
end

end Go.Proofs.Ytehdhdocalbfpaa
