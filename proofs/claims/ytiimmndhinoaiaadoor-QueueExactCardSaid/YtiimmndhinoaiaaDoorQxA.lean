/-
  QueueExact: the three rings; works; books. Printed by genQx.py.
-/
import Derived.Test.YtiimmndhinoaiaaDoorRgSF
import Derived.Test.YtiimmndhinoaiaaDoorRgPE
import Derived.Test.YtiimmndhinoaiaaDoorRgID
import Derived.Test.YtiimmndhinoaiaaDoorQrC
import Derived.Test.YtiimmndhinoaiaaDoorQlT
namespace Go.Proofs.YtiimmndhinoaiaaDoor
open Go.RowKit Go.Shelf ring
set_option linter.unusedVariables false
set_option linter.unusedSimpArgs false
attribute [local go_sem] Oper.semAt_some
namespace Qu

theorem works_any (w : World) : Calls Tryd.prog 17 #[] w fun e w' => e = .returned (.bool true) ∧ Fr [] w w' := by
  have h1 := RgI.new_ok w 1 (by omega) (by omega)
  rw [show ((1 : Nat) : Int) = 1 from rfl] at h1
  have H1 := Lib.hid h1
  clear h1
  go_enter Tryd.func17, Tryd.ntmps17
  go_wp2_with fail
  (with_reducible refine H1.out.mono ?_)
  rintro e w1 ⟨b, g, Cs, rfl, l1, hb, hg, f1⟩
  have H2 := Lib.hid (RgI.push_any w1 b g Cs 0 [] (RM.new 1) 7 l1 (by decide))
  have F1 := Lib.hid (And.intro f1 (And.intro hb hg))
  clear l1 f1 hb hg
  go_wp2_with fail
  (with_reducible refine H2.out.mono ?_)
  rintro e w2 ⟨rfl, g2, Cs2, f2, l2, m2, k2⟩
  have h3 := RgI.push_full w2 b g2 Cs2 f2 _ _ 8 l2 (by decide) (by decide)
  have F2 := Lib.hid (show Fr [] w w2 ∧ w.heap.size ≤ g2 from ⟨F1.out.1.trans k2 (by intro x hx; simp at hx; rcases hx with rfl | rfl; exact .inr F1.out.2.1; exact .inr F1.out.2.2), by
    have hs := F1.out.1.size
    have hg := F1.out.2.2
    rcases m2 with rfl | m2 <;> omega⟩)
  have H3 := Lib.hid h3
  clear l2 m2 k2 h3
  go_wp2_with fail
  (with_reducible refine H3.out.mono ?_)
  rintro e w3 ⟨rfl, g3, Cs3, f3, l3, m3, k3⟩
  have h4 := RgI.pop_any w3 b g3 Cs3 f3 _ _ l3
  rw [show RgI.atRes ([] ++ [7]) 0 = .tuple #[.int .i64 7, .bool true] from rfl] at h4
  have H4 := Lib.hid h4
  have F3 := Lib.hid (show Fr [] w w3 ∧ w.heap.size ≤ g3 from ⟨F2.out.1.trans k3 (by intro x hx; simp at hx; rcases hx with rfl | rfl; exact .inr F1.out.2.1; exact .inr F2.out.2), by
    have hs := F2.out.1.size
    have hg := F2.out.2
    rcases m3 with rfl | m3 <;> omega⟩)
  clear l3 m3 k3 h4
  go_wp2_with fail
  (with_reducible refine H4.out.mono ?_)
  rintro e w4 ⟨rfl, g4, Cs4, f4, l4, m4, k4⟩
  have F4 := Lib.hid (F3.out.1.trans k4 (by intro x hx; simp at hx; rcases hx with rfl | rfl; exact .inr F1.out.2.1; exact .inr F3.out.2))
  have h5 := RgI.len_any w4 b g4 Cs4 f4 _ _ l4
  have H5 := Lib.hid (show Calls Tryd.prog 46 #[.pointer (some ⟨b, 0, none⟩)] w4 fun e w' => e = .returned (.int .i64 0) ∧ w4 = w' from h5)
  clear l4 m4 k4 h5
  go_wp2_with fail
  (with_reducible refine H5.out.mono ?_)
  rintro e w5 ⟨rfl, rfl⟩
  go_wp2
  go_ret
  exact ⟨rfl, F4.out⟩
/-- The ring of texts, the one of pairs, the document's: of one content. -/
structure TQ (W : World) (b g c d r : Nat) (vr : Value) (V : List Int) (M : RM) : Prop where
  p : ∃ Cs f, RgS.RingAt W b g Cs f (V.map qtx) M
  q : ∃ Cs f, RgP.RingAt W c d Cs f V M
  r : RqAt W r vr V M
  pk : V.length ≤ M.pk
section
variable {W W' : World} {b g c d r : Nat} {vr : Value} {V : List Int} {M : RM}
theorem TQ.fr {S : List Nat} (h : TQ W b g c d r vr V M) (f : Fr S W W') (hs : ∀ x ∈ [b, g, c, d, r], x ∉ S) (hv : ∀ k, vr.ownBlock = some k → k ∉ S) : TQ W' b g c d r vr V M := by
  obtain ⟨Cs, k, h1⟩ := h.p
  obtain ⟨Ds, j, h2⟩ := h.q
  exact ⟨⟨Cs, k, h1.fr f (hs _ (by simp)) (hs _ (by simp))⟩, ⟨Ds, j, h2.fr f (hs _ (by simp)) (hs _ (by simp))⟩, h.r.fr f (hs _ (by simp)) hv, h.pk⟩
theorem TQ.fr0 (h : TQ W b g c d r vr V M) (f : Fr [] W W') : TQ W' b g c d r vr V M := h.fr f (by simp) (by simp)
theorem TQ.len (h : TQ W b g c d r vr V M) : V.length ≤ M.most ∧ M.most ≤ 65536 ∧ 1 ≤ M.most := by
  obtain ⟨Cs, k, h1⟩ := h.p
  have := h1.len
  rw [List.length_map] at this
  exact ⟨this, h1.m64, h1.pos⟩
theorem TQ.lts (h : TQ W b g c d r vr V M) : ∀ x ∈ [b, g, c, d, r], x < W.heap.size := by
  obtain ⟨Cs, k, h1⟩ := h.p
  obtain ⟨Ds, j, h2⟩ := h.q
  intro x hx
  simp at hx
  rcases hx with rfl | rfl | rfl | rfl | rfl
  · exact h1.hd.lt
  · exact h1.pl.lt
  · exact h2.hd.lt
  · exact h2.pl.lt
  · exact h.r.lt
/-- No two of them are one; none is the document's list's. -/
theorem TQ.tags (h : TQ W b g c d r vr V M) : (∃ x, Blk W b x 100) ∧ (∃ x, Blk W g x 9) ∧ (∃ x, Blk W c x 103) ∧ (∃ x, Blk W d x 65) ∧ (∃ x, Blk W r x 74) ∧ ∀ k ∈ vr.ownBlock.toList, ∃ x, Blk W k x 3 := by
  obtain ⟨Cs, k, h1⟩ := h.p
  obtain ⟨Ds, j, h2⟩ := h.q
  exact ⟨⟨_, h1.hd⟩, ⟨_, h1.pl⟩, ⟨_, h2.hd⟩, ⟨_, h2.pl⟩, ⟨_, h.r.hd⟩, fun k hk => own_blk h.r.own k hk⟩
end
set_option maxHeartbeats 4000000 in
set_option maxRecDepth 100000 in
theorem qbooks_any (w : World) (b g c d r : Nat) (vr : Value) (V : List Int) (M : RM) (h : TQ w b g c d r vr V M) :
    Calls Tryd.prog 24 #[.pointer (some ⟨b, 0, none⟩), .pointer (some ⟨c, 0, none⟩), .pointer (some ⟨r, 0, none⟩)] w fun e w' => e = .returned (.bool true) ∧ Fr [] w w' := by
  obtain ⟨Cs, k, h1⟩ := h.p
  obtain ⟨Ds, j, h2⟩ := h.q
  obtain ⟨m, hm⟩ : ∃ m, m = V.length := ⟨_, rfl⟩
  have hl := h.len
  have el : (V.map qtx).length = m := by rw [List.length_map, hm]
  have a1 := Lib.hid (fun n => el ▸ RgS.len_any (w.drewN n) b g Cs k _ M (h1.drewN n))
  have a2 := Lib.hid (fun n => el ▸ RgS.free_any (w.drewN n) b g Cs k _ M (h1.drewN n))
  have a3 := Lib.hid (fun n => RgS.most_any (w.drewN n) b g Cs k _ M (h1.drewN n))
  have a4 := Lib.hid (fun n => RgS.pressed_any (w.drewN n) b g Cs k _ M (h1.drewN n))
  have a5 := Lib.hid (fun n => RgS.peak_any (w.drewN n) b g Cs k _ M (h1.drewN n))
  have a6 := Lib.hid (fun n => RgS.refused_any (w.drewN n) b g Cs k _ M (h1.drewN n))
  have b1 := Lib.hid (fun n => hm ▸ RgP.len_any (w.drewN n) c d Ds j _ M (h2.drewN n))
  have b2 := Lib.hid (fun n => hm ▸ RgP.free_any (w.drewN n) c d Ds j _ M (h2.drewN n))
  have b4 := Lib.hid (fun n => RgP.pressed_any (w.drewN n) c d Ds j _ M (h2.drewN n))
  have b5 := Lib.hid (fun n => RgP.peak_any (w.drewN n) c d Ds j _ M (h2.drewN n))
  obtain ⟨p, cc, rfl, -, -, -⟩ := h.r.form
  obtain ⟨c0, c1, c2, c3, c4, c5, c6, c7, cf⟩ := rcells_at h.r.hd
  rw [← hm] at c0
  have hm1 : (m : Int) ≤ 65536 := by omega
  have hm2 : (M.most : Int) ≤ 65536 := by omega
  generalize M.most = mo at *
  generalize M.pr = pr at *
  generalize M.pk = pk at *
  generalize M.rf = rf at *
  clear h h1 h2 hl el hm cf c2 c3 c4
  go_enter Tryd.func24, Tryd.ntmps24
  go_wp2_with fail
  go_quiet (first | (go_at_call 48; exact (a1.out _).mono fun _ _ h => ⟨h.1, _, h.2.symm⟩) | (go_at_call 71; exact (a2.out _).mono fun _ _ h => ⟨h.1, _, h.2.symm⟩) | (go_at_call 21; exact (a3.out _).mono fun _ _ h => ⟨h.1, _, h.2.symm⟩) | (go_at_call 72; exact (a4.out _).mono fun _ _ h => ⟨h.1, _, h.2.symm⟩) | (go_at_call 73; exact (a5.out _).mono fun _ _ h => ⟨h.1, _, h.2.symm⟩) | (go_at_call 74; exact (a6.out _).mono fun _ _ h => ⟨h.1, _, h.2.symm⟩))
  go_wp2_with fail
  go_quiet (first | (go_at_call 75; exact (b1.out _).mono fun _ _ h => ⟨h.1, _, h.2.symm⟩) | (go_at_call 76; exact (b2.out _).mono fun _ _ h => ⟨h.1, _, h.2.symm⟩) | (go_at_call 77; exact (b4.out _).mono fun _ _ h => ⟨h.1, _, h.2.symm⟩) | (go_at_call 78; exact (b5.out _).mono fun _ _ h => ⟨h.1, _, h.2.symm⟩))
  go_wp2
  go_ret
  exact ⟨rfl, ((Fr.refl _ _).drewN _).drewN _⟩
end Qu
end Go.Proofs.YtiimmndhinoaiaaDoor
