/-
  The document's line: From, Add.
-/
import Derived.Test.YtiimmndhinoaiaaDoorRefB
namespace Go.Proofs.YtiimmndhinoaiaaDoor
open Go.RowKit Go.Shelf
set_option linter.unusedVariables false
attribute [local go_sem] Oper.semAt_some
/-- What From answers. -/
theorem rfrom_arg (w : World) (most : Int) (pv : Value) (hp : ∃ p n c, pv = .slice p n c) (h : most < 1 ∨ 64 < most) : Calls Tryd.prog 7 #[.int .i64 most, pv] w fun e w' => e = .returned (.tuple #[.pointer none, .int .i64 2]) ∧ w = w' := by
  obtain ⟨p, n, c, rfl⟩ := hp
  have HN := Lib.hid (rnew_no w most h)
  clear h
  go_enter Tryd.func7, Tryd.ntmps7
  go_wp2_with fail
  (with_reducible refine HN.out.mono ?_)
  rintro e w1 ⟨rfl, rfl⟩
  go_wp2
  go_ret2
  exact ⟨rfl, rfl⟩
theorem rfrom_full (w : World) (most n : Nat) (p : Option Addr) (c : Nat) (h1 : 1 ≤ most) (h2 : most ≤ 64) (hn : most < n) : Calls Tryd.prog 7 #[.int .i64 most, .slice p n c] w fun e w' => e = .returned (.tuple #[.pointer none, .int .i64 5]) ∧ Fr [] w w' := by
  have HN := Lib.hid (rnew_ok w most h1 h2)
  have hlt : (most : Int) < (n : Int) := by omega
  clear h1 h2 hn
  go_enter Tryd.func7, Tryd.ntmps7
  go_wp2_with fail
  (with_reducible refine HN.out.mono ?_)
  rintro e w1 ⟨rfl, h1, f1⟩
  have HF := Lib.hid f1
  clear h1 f1
  go_wp2
  go_ret2
  exact ⟨rfl, HF.out⟩
def RFrom (w : World) (L : List Int) (most : Nat) (e : Ending) (w' : World) : Prop :=
  ∃ r v', e = .returned (.tuple #[.pointer (some ⟨r, 0, none⟩), .int .i64 0]) ∧ RAt w' r v' L most ⟨0, 0, 0, 0⟩ ∧ w.heap.size ≤ r ∧ (∀ g, v'.ownBlock = some g → w.heap.size ≤ g) ∧ Fr [] w w'
theorem rfrom_ok (w : World) (most : Nat) (pv : Value) (L : List Int) (h : RdF w pv L.length 1 (ints L)) (h1 : 1 ≤ most) (h2 : most ≤ 64) (hl : L.length ≤ most) : Calls Tryd.prog 7 #[.int .i64 most, pv] w (RFrom w L most) := by
  obtain ⟨p, c, rfl, hc, hcm⟩ := h.form
  have HN := Lib.hid (rnew_ok w most h1 h2)
  have HC := Lib.hid (fun w1 (f : Fr [] w w1) => copied_any w1 _ L (-1) (h.grow f) (by omega))
  obtain ⟨n, hn⟩ : ∃ n, n = L.length := ⟨_, rfl⟩
  rw [← hn] at HC hl ⊢
  have hlt : ¬ (most : Int) < (n : Int) := by omega
  clear h h1 h2 hc hn hl
  go_enter Tryd.func7, Tryd.ntmps7
  go_wp2_with fail
  (with_reducible refine HN.out.mono ?_)
  rintro e w1 ⟨rfl, h1, f1⟩
  obtain ⟨r, hr⟩ : ∃ r, r = w.heap.size := ⟨_, rfl⟩
  rw [← hr] at h1 ⊢
  have H1 := Lib.hid (And.intro h1 (And.intro f1 hr))
  clear h1 f1 hr
  go_wp2_with fail
  (with_reducible refine (HC.out w1 H1.out.2.1).mono ?_)
  rintro e w2 ⟨v', rfl, ho, f2, hg⟩
  rw [cpy_full L (-1) (by omega)] at ho
  have hR := H1.out.1.fr f2 (by simp) (by simp)
  obtain ⟨g0, -, -, -, -, -, gf⟩ := hR.books
  have g0f := gf 0
  have HE := Lib.hid (show RFrom w L most (.returned (.tuple #[.pointer (some ⟨r, 0, none⟩), .int .i64 0])) (w2.setCell ⟨r, 0, none⟩ v') from
    ⟨r, v', rfl, hR.lay ho, by rw [H1.out.2.2]; exact Nat.le_refl _, fun g q => by have := hg g q; have := H1.out.2.1.size; omega, (H1.out.2.1.trans f2 (by simp)).setCell _ _ (.inr (by rw [H1.out.2.2]; exact Nat.le_refl _))⟩)
  obtain ⟨pp, cc, rfl⟩ := own_form ho
  clear ho f2 hg hR gf
  go_wp2
  go_ret2
  exact HE.out
theorem radd_full (w : World) (r : Nat) (v : Value) (L : List Int) (most : Nat) (B : Bk) (x : Int) (h : RAt w r v L most B) (hl : most ≤ L.length) :
    Calls Tryd.prog 34 #[.pointer (some ⟨r, 0, none⟩), .int .i64 x] w (RPost w r v L most ((B.set 2 (wrap64 (B.p + 1))).set 4 (wrap64 (B.d + 1))) (.bool false)) := by
  have HB := Lib.hid (fun k => ((h.book 2 (by omega) (wrap64 (B.p + 1))).drewN k).book 4 (by omega) (wrap64 (B.d + 1)))
  have HF := Lib.hid (fun k => show Fr [r] w (((w.setCell ⟨r, 2, none⟩ (.int .i64 (wrap64 (B.p + 1)))).drewN k).setCell ⟨r, 4, none⟩ (.int .i64 (wrap64 (B.d + 1)))) from (((Fr.refl _ _).setCell _ _ (.inl (by simp))).drewN k).setCell _ _ (.inl (by simp)))
  obtain ⟨pp, cc, rfl, -, -, -⟩ := h.form
  obtain ⟨c0, c1, c2, c3, c4, c5, cf⟩ := h.books
  have f2 := cf 2
  have f4 := cf 4
  have hd : decide (most ≤ L.length) = true := decide_eq_true hl
  clear h cf c3 c5
  go_enter Tryd.func34, Tryd.ntmps34
  go_wp2
  go_quiet (fail)
  go_wp2
  go_ret
  exact ⟨rfl, _, HB.out _, .inl rfl, HF.out _⟩
set_option maxHeartbeats 1000000 in
theorem radd_ok (w : World) (r : Nat) (v : Value) (L : List Int) (most : Nat) (B : Bk) (x : Int) (h : RAt w r v L most B) (hl : L.length < most) (hm : most ≤ 64) :
    Calls Tryd.prog 34 #[.pointer (some ⟨r, 0, none⟩), .int .i64 x] w (RPost w r v (L ++ [x]) most (B.set 2 (wrap64 (B.p + 1))) (.bool true)) := by
  have HB := Lib.hid (fun k => (h.book 2 (by omega) (wrap64 (B.p + 1))).drewN k)
  have HF := Lib.hid (fun k => show Fr [r] w ((w.setCell ⟨r, 2, none⟩ (.int .i64 (wrap64 (B.p + 1)))).drewN k) from ((Fr.refl _ _).setCell _ _ (.inl (by simp))).drewN k)
  obtain ⟨pp, cc, rfl, -, -, -⟩ := h.form
  obtain ⟨c0, c1, c2, c3, c4, c5, cf⟩ := h.books
  have f2 := cf 2
  have hd : ¬ most ≤ L.length := by omega
  have HC := Lib.hid (fun k => copied_any _ _ L (-1) ((HB.out k).rd (by omega)) (by omega))
  have HL := Lib.hid (And.intro hl (And.intro hm h.lt))
  clear h hl hm cf c3 c4 c5
  go_enter Tryd.func34, Tryd.ntmps34
  go_wp2
  go_quiet (fail)
  go_wp2_with fail
  (with_reducible refine (HC.out _).mono ?_)
  rintro e w2 ⟨v', rfl, ho, f2, hg⟩
  rw [cpy_full L (-1) (by omega)] at ho
  have hR := (HB.out nq).fr f2 (by simp) (by simp)
  have hF := (HF.out nq).trans f2 (by simp)
  have hl := HL.out.1
  have HE := Lib.hid (fun v1 w3 (ha : Appended (w2.alloc (.cells #[.int .i64 x] 3)) 3 1 v' (L.length + 1) (ints L ++ [.int .i64 x]) v1 w3) => show (w3.cell? ⟨r, 0, none⟩ = some (.slice pp L.length cc) ∧ w3.frozen? ⟨r, 0, none⟩ = false) ∧
      RPost w r (.slice pp L.length cc) (L ++ [x]) most (B.set 2 (wrap64 (B.p + 1))) (.bool true) (.returned (.bool true)) (w3.setCell ⟨r, 0, none⟩ v1) from by
    have hr : r < w.heap.size := HL.out.2.2
    have hnr : r ∉ v'.ownBlock.toList := fun hm => by have := hg r (by simpa using hm); have := (HF.out nq).size; omega
    have hR3 := (hR.fr (((Fr.refl v'.ownBlock.toList w2).alloc (.cells #[.int .i64 x] 3)).trans ha.fr (fun y hy => .inl hy)) hnr (fun g q hm => by
      have h1 := hg g (by simpa using hm)
      have h2 := own_lt (HB.out nq).2 q
      omega))
    obtain ⟨g0, -, -, -, -, -, gf⟩ := hR3.books
    refine ⟨⟨g0, gf 0⟩, rfl, v1, hR3.lay (by rw [List.length_append, List.length_singleton]; have := ha.own; simpa [ints] using this), .inr fun g q => ?_, ?_⟩
    · rcases ha.place with e | e
      · have := hg g (by rw [← e]; exact q)
        have := (HF.out nq).size
        omega
      · rw [q] at e; cases e
        have := hF.size
        simp; omega
    · refine (((hF.alloc (.cells #[.int .i64 x] 3)).trans ha.fr (fun y hy => .inr ?_)).setCell _ _ (.inl (by simp)))
      have := hg y (by simpa using hy)
      have := (HF.out nq).size
      omega)
  have hown := ho
  clear hg hR hF
  go_wp2_with (at_builtin; go_must (refine wpList_app _ rfl _ _ 22 rfl 3 (.int .i64 0) 1 8 Tryd.underlying22 infoI rfl (by decide) v' L.length (ints L) rfl (hown.alloc _) ⟨w2.heap.size, 0, none⟩ 1 1 [.int .i64 x] rfl rfl (new_one _ _ _ _ rfl) (by simp [Value.oneCell']) (by have := HL.out; unfold maxLen; omega) (by have := HL.out; omega) ?_); intro v1 w3 happ; obtain ⟨g1, cp1, rfl⟩ := own_succ happ.own; obtain ⟨⟨e1, e2⟩, e5⟩ := HE.out _ _ happ; have E5 := Lib.hid e5; clear e5)
  go_ret
  exact E5.out
end Go.Proofs.YtiimmndhinoaiaaDoor
