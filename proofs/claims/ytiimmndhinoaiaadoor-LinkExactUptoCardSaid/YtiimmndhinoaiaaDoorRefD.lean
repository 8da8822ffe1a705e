/-
  The document's line: Take, Lose, Twice. Printed by genRefD.py.
-/
import Derived.Test.YtiimmndhinoaiaaDoorRefC
namespace Go.Proofs.YtiimmndhinoaiaaDoor
open Go.RowKit Go.Shelf
set_option linter.unusedVariables false
attribute [local go_sem] Oper.semAt_some

set_option maxHeartbeats 1000000 in
theorem rtake_ok (w : World) (r : Nat) (v : Value) (L : List Int) (most : Nat) (B : Bk) (i : Int) (h : RAt w r v L most B) (hl : 0 < L.length) (h64 : L.length ≤ 64) :
    Calls Tryd.prog 36 #[.pointer (some ⟨r, 0, none⟩), .int .i64 i] w (RPost w r v (L.eraseIdx (LnI.place i L.length)) most (B.set 3 (wrap64 (B.c + 1))) (.tuple #[.int .i64 (L.getD (LnI.place i L.length) 0), .bool true])) := by
  have HN := Lib.hid (rnames_any w r v L most B i h hl h64)
  have hlt := LnI.place_lt i hl
  generalize LnI.place i L.length = k at *
  have HC := Lib.hid (copied_any w v L (k : Int) (h.rd h64) (by omega))
  obtain ⟨x, hx⟩ : ∃ x, L.getD k 0 = x := ⟨_, rfl⟩
  obtain ⟨c0, c1, c2, c3, c4, c5, cf⟩ := h.books
  have hr := h.lt
  obtain ⟨g, o, cap, rfl, _, _, hcell⟩ := (h.rd h64).pos hl
  have cg : w.cell? ⟨g, o + k, none⟩ = some (.int .i64 x) := hcell k _ (by simp [ints, hlt]; rw [← hx]; simp [List.getD_eq_getElem?_getD, hlt])
  have HH := Lib.hid (And.intro h (And.intro hlt hr))
  have k0 : (0 : Int) ≤ (k : Int) := by omega
  have k1 : ¬ (k : Int) < 0 := by omega
  have k2 : (k : Int) < (L.length : Int) := by omega
  rw [hx]
  clear h hcell c1 c2 c3 c4 c5 cf hlt hl h64
  go_enter Tryd.func36, Tryd.ntmps36
  go_wp2_with fail
  (with_reducible refine HN.out.mono ?_)
  rintro e w1 ⟨rfl, rfl⟩
  go_wp2_with fail
  (with_reducible refine HC.out.mono ?_)
  rintro e w2 ⟨v', rfl, ho, f2, hg⟩
  rw [cpy_erase L k HH.out.2.1] at ho
  have hR := HH.out.1.fr f2 (by simp) (by simp)
  obtain ⟨g0, -, -, g3, g4, -, gf⟩ := hR.books
  have gf0 := gf 0
  have gf3 := gf 3
  have HE := Lib.hid (show RPost w r (.slice (some ⟨g, o, none⟩) L.length cap) (L.eraseIdx k) most (B.set 3 (wrap64 (B.c + 1))) (.tuple #[.int .i64 x, .bool true]) (.returned (.tuple #[.int .i64 x, .bool true])) ((w2.setCell ⟨r, 0, none⟩ v').setCell ⟨r, 3, none⟩ (.int .i64 (wrap64 (B.c + 1)))) from
    ⟨rfl, v', (hR.lay ho).book 3 (by omega) _, .inr hg, ((f2.mono (T := [r]) (by simp)).setCell _ _ (.inl (by simp))).setCell _ _ (.inl (by simp))⟩)
  obtain ⟨pp, cc, rfl⟩ := own_form ho
  clear ho f2 hg hR gf cg
  go_wp2
  go_ret2
  exact HE.out
theorem rtake_no (w : World) (r : Nat) (v : Value) (most : Nat) (B : Bk) (i : Int) (h : RAt w r v [] most B) :
    Calls Tryd.prog 36 #[.pointer (some ⟨r, 0, none⟩), .int .i64 i] w fun e w' => e = .returned (.tuple #[.int .i64 0, .bool false]) ∧ w = w' := by
  have HN := Lib.hid (rnames_no w r v most B i h)
  clear h
  go_enter Tryd.func36, Tryd.ntmps36
  go_wp2_with fail
  (with_reducible refine HN.out.mono ?_)
  rintro e w1 ⟨rfl, rfl⟩
  go_wp2
  go_ret2
  exact ⟨rfl, rfl⟩


set_option maxHeartbeats 1000000 in
theorem rlose_ok (w : World) (r : Nat) (v : Value) (L : List Int) (most : Nat) (B : Bk) (i : Int) (h : RAt w r v L most B) (hl : 0 < L.length) (h64 : L.length ≤ 64) :
    Calls Tryd.prog 38 #[.pointer (some ⟨r, 0, none⟩), .int .i64 i] w (RPost w r v (L.eraseIdx (LnI.place i L.length)) most (B.set 4 (wrap64 (B.d + 1))) (.bool true)) := by
  have HN := Lib.hid (rnames_any w r v L most B i h hl h64)
  have hlt := LnI.place_lt i hl
  generalize LnI.place i L.length = k at *
  have HC := Lib.hid (copied_any w v L (k : Int) (h.rd h64) (by omega))
  obtain ⟨x, hx⟩ : ∃ x, L.getD k 0 = x := ⟨_, rfl⟩
  obtain ⟨c0, c1, c2, c3, c4, c5, cf⟩ := h.books
  have hr := h.lt
  obtain ⟨g, o, cap, rfl, _, _, hcell⟩ := (h.rd h64).pos hl
  have cg : w.cell? ⟨g, o + k, none⟩ = some (.int .i64 x) := hcell k _ (by simp [ints, hlt]; rw [← hx]; simp [List.getD_eq_getElem?_getD, hlt])
  have HH := Lib.hid (And.intro h (And.intro hlt hr))
  have k0 : (0 : Int) ≤ (k : Int) := by omega
  have k1 : ¬ (k : Int) < 0 := by omega
  have k2 : (k : Int) < (L.length : Int) := by omega
  clear hx
  clear h hcell c1 c2 c3 c4 c5 cf hlt hl h64
  go_enter Tryd.func38, Tryd.ntmps38
  go_wp2_with fail
  (with_reducible refine HN.out.mono ?_)
  rintro e w1 ⟨rfl, rfl⟩
  go_wp2_with fail
  (with_reducible refine HC.out.mono ?_)
  rintro e w2 ⟨v', rfl, ho, f2, hg⟩
  rw [cpy_erase L k HH.out.2.1] at ho
  have hR := HH.out.1.fr f2 (by simp) (by simp)
  obtain ⟨g0, -, -, g3, g4, -, gf⟩ := hR.books
  have gf0 := gf 0
  have gf4 := gf 4
  have HE := Lib.hid (show RPost w r (.slice (some ⟨g, o, none⟩) L.length cap) (L.eraseIdx k) most (B.set 4 (wrap64 (B.d + 1))) (.bool true) (.returned (.bool true)) ((w2.setCell ⟨r, 0, none⟩ v').setCell ⟨r, 4, none⟩ (.int .i64 (wrap64 (B.d + 1)))) from
    ⟨rfl, v', (hR.lay ho).book 4 (by omega) _, .inr hg, ((f2.mono (T := [r]) (by simp)).setCell _ _ (.inl (by simp))).setCell _ _ (.inl (by simp))⟩)
  obtain ⟨pp, cc, rfl⟩ := own_form ho
  clear ho f2 hg hR gf cg
  go_wp2
  go_ret
  exact HE.out
theorem rlose_no (w : World) (r : Nat) (v : Value) (most : Nat) (B : Bk) (i : Int) (h : RAt w r v [] most B) :
    Calls Tryd.prog 38 #[.pointer (some ⟨r, 0, none⟩), .int .i64 i] w fun e w' => e = .returned (.bool false) ∧ w = w' := by
  have HN := Lib.hid (rnames_no w r v most B i h)
  clear h
  go_enter Tryd.func38, Tryd.ntmps38
  go_wp2_with fail
  (with_reducible refine HN.out.mono ?_)
  rintro e w1 ⟨rfl, rfl⟩
  go_wp2
  go_ret
  exact ⟨rfl, rfl⟩

set_option maxHeartbeats 1000000 in
theorem rtwice_ok (w : World) (r : Nat) (v : Value) (L : List Int) (most : Nat) (B : Bk) (i : Int) (h : RAt w r v L most B) (hl : 0 < L.length) (h64 : most ≤ 64) (hlm : L.length < most) :
    Calls Tryd.prog 40 #[.pointer (some ⟨r, 0, none⟩), .int .i64 i] w (RPost w r v (L ++ [L.getD (LnI.place i L.length) 0]) most (B.set 5 (wrap64 (B.e + 1))) (.bool true)) := by
  have HN := Lib.hid (rnames_any w r v L most B i h hl (by omega))
  have hlt := LnI.place_lt i hl
  generalize LnI.place i L.length = k at *
  have HC := Lib.hid (fun nq => copied_any _ v L (-1) ((h.drewN nq).rd (by omega)) (by omega))
  obtain ⟨x, hx⟩ : ∃ x, L.getD k 0 = x := ⟨_, rfl⟩
  obtain ⟨c0, c1, c2, c3, c4, c5, cf⟩ := h.books
  have hr := h.lt
  obtain ⟨g, o, cap, rfl, _, _, hcell⟩ := (h.rd (by omega)).pos hl
  have cg : w.cell? ⟨g, o + k, none⟩ = some (.int .i64 x) := hcell k _ (by simp [ints, hlt]; rw [← hx]; simp [List.getD_eq_getElem?_getD, hlt])
  have HH := Lib.hid (And.intro h (And.intro hlt (And.intro hr (And.intro h64 hlm))))
  have k0 : (0 : Int) ≤ (k : Int) := by omega
  have k1 : ¬ (k : Int) < 0 := by omega
  have k2 : (k : Int) < (L.length : Int) := by omega
  have k3 : ¬ most ≤ L.length := by omega
  rw [hx]
  clear h hcell c2 c3 c4 c5 cf hlt hl hx h64 hlm
  go_enter Tryd.func40, Tryd.ntmps40
  go_wp2_with fail
  (with_reducible refine HN.out.mono ?_)
  rintro e w1 ⟨rfl, rfl⟩
  go_wp2
  go_quiet (fail)
  go_wp2_with fail
  (with_reducible refine (HC.out _).mono ?_)
  rintro e w2 ⟨v', rfl, ho, f2, hg⟩
  rw [cpy_full L (-1) (by omega)] at ho
  have hR := (HH.out.1.drewN nq).fr f2 (by simp) (by simp)
  have cg2 : w2.cell? ⟨g, o + k, none⟩ = some (.int .i64 x) := (f2.cell (by have := World.block_lt_of_cell? w _ cg; simpa using this) (by simp)).trans cg
  obtain ⟨g0, -, -, -, -, g5, gf⟩ := hR.books
  have HE := Lib.hid (fun v1 w3 (ha : Appended (w2.alloc (.cells #[.int .i64 x] 3)) 3 1 v' (L.length + 1) (ints L ++ [.int .i64 x]) v1 w3) => show (w3.cell? ⟨r, 0, none⟩ = some (.slice (some ⟨g, o, none⟩) L.length cap) ∧ w3.frozen? ⟨r, 0, none⟩ = false ∧ w3.cell? ⟨r, 5, none⟩ = some (.int .i64 B.e) ∧ w3.frozen? ⟨r, 5, none⟩ = false) ∧
      RPost w r (.slice (some ⟨g, o, none⟩) L.length cap) (L ++ [x]) most (B.set 5 (wrap64 (B.e + 1))) (.bool true) (.returned (.bool true)) ((w3.setCell ⟨r, 0, none⟩ v1).setCell ⟨r, 5, none⟩ (.int .i64 (wrap64 (B.e + 1)))) from by
    have hr : r < w.heap.size := HH.out.2.2.1
    have hs2 := f2.size
    have hnr : r ∉ v'.ownBlock.toList := fun hm => by have := hg r (by simpa using hm); simp at this; omega
    have hR3 := (hR.fr (((Fr.refl v'.ownBlock.toList w2).alloc (.cells #[.int .i64 x] 3)).trans ha.fr (fun y hy => .inl hy)) hnr (fun g q hm => by
      have h1 := hg g (by simpa using hm)
      have h2 := own_lt HH.out.1.2 q
      simp at h1; omega))
    obtain ⟨g0, -, -, -, -, g5, gf⟩ := hR3.books
    refine ⟨⟨g0, gf 0, g5, gf 5⟩, rfl, v1, (hR3.lay (by rw [List.length_append, List.length_singleton]; have := ha.own; simpa [ints] using this)).book 5 (by omega) _, .inr fun g q => ?_, ?_⟩
    · rcases ha.place with e | e
      · have := hg g (by rw [← e]; exact q)
        simpa using this
      · rw [q] at e; cases e
        simp at hs2; simp; omega
    · refine (((((Fr.refl [r] w).drewN nq).trans f2 (by simp)).alloc (.cells #[.int .i64 x] 3)).trans ha.fr (fun y hy => .inr ?_)).setCell _ _ (.inl (by simp)) |>.setCell _ _ (.inl (by simp))
      have := hg y (by simpa using hy)
      simpa using this)
  have hown := ho
  have gb : g ≠ w2.heap.size := Nat.ne_of_lt (World.block_lt_of_cell? w2 _ cg2)
  clear hg hR f2 cg gf
  go_wp2_with (at_builtin; go_must (refine wpList_app _ rfl _ _ 22 rfl 3 (.int .i64 0) 1 8 Tryd.underlying22 infoI rfl (by decide) v' L.length (ints L) rfl (hown.alloc _) ⟨w2.heap.size, 0, none⟩ 1 1 [.int .i64 x] rfl rfl (new_one _ _ _ _ rfl) (by simp [Value.oneCell']) (by have := HH.out; unfold maxLen; omega) (by have := HH.out; omega) ?_); intro v1 w3 happ; obtain ⟨g1, cp1, rfl⟩ := own_succ happ.own; obtain ⟨⟨e1, e2, e3, e4⟩, e5⟩ := HE.out _ _ happ; have E5 := Lib.hid e5; clear e5)
  go_ret
  exact E5.out
theorem rtwice_no (w : World) (r : Nat) (v : Value) (most : Nat) (B : Bk) (i : Int) (h : RAt w r v [] most B) :
    Calls Tryd.prog 40 #[.pointer (some ⟨r, 0, none⟩), .int .i64 i] w fun e w' => e = .returned (.bool false) ∧ Fr [] w w' := by
  have HN := Lib.hid (rnames_no w r v most B i h)
  clear h
  go_enter Tryd.func40, Tryd.ntmps40
  go_wp2_with fail
  (with_reducible refine HN.out.mono ?_)
  rintro e w1 ⟨rfl, rfl⟩
  go_wp2
  go_quiet (fail)
  go_wp2
  go_ret
  exact ⟨rfl, (Fr.refl _ _).drewN _⟩
theorem rtwice_full (w : World) (r : Nat) (v : Value) (L : List Int) (most : Nat) (B : Bk) (i : Int) (h : RAt w r v L most B) (hl : 0 < L.length) (h64 : L.length ≤ 64) (hlm : most ≤ L.length) :
    Calls Tryd.prog 40 #[.pointer (some ⟨r, 0, none⟩), .int .i64 i] w fun e w' => e = .returned (.bool false) ∧ Fr [] w w' := by
  have HN := Lib.hid (rnames_any w r v L most B i h hl h64)
  generalize LnI.place i L.length = k at *
  obtain ⟨c0, c1, -, -, -, -, -⟩ := h.books
  obtain ⟨pp, cc, rfl, -, -, -⟩ := h.form
  have k1 : ¬ (k : Int) < 0 := by omega
  clear h hl h64
  go_enter Tryd.func40, Tryd.ntmps40
  go_wp2_with fail
  (with_reducible refine HN.out.mono ?_)
  rintro e w1 ⟨rfl, rfl⟩
  go_wp2
  go_quiet (fail)
  go_wp2
  go_ret
  exact ⟨rfl, (Fr.refl _ _).drewN _⟩
end Go.Proofs.YtiimmndhinoaiaaDoor
