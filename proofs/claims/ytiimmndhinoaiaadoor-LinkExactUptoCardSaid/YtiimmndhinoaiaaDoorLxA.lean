/-
  The line of texts beside the document's; books.
-/
import Derived.Test.YtiimmndhinoaiaaDoorKt
import Derived.Test.YtiimmndhinoaiaaDoorRefD
namespace Go.Proofs.YtiimmndhinoaiaaDoor
open Go.RowKit Go.Shelf
set_option linter.unusedVariables false
attribute [local go_sem] Oper.semAt_some
/-- The books are small. -/
structure Bk.Ok (B : Bk) (k : Nat) : Prop where
  p : 0 ≤ B.p ∧ B.p ≤ k
  c : 0 ≤ B.c ∧ B.c ≤ k
  d : 0 ≤ B.d ∧ B.d ≤ k
  e : 0 ≤ B.e ∧ B.e ≤ k
/-- Both lines, of one content. -/
structure LK (W : World) (b r : Nat) (vl vr : Value) (V : List Int) (most : Nat) (B : Bk) : Prop where
  l : LnS.LineAt W b vl (V.map txt) most B
  r : RAt W r vr V most B
section
variable {W W' : World} {b r : Nat} {vl vr : Value} {V : List Int} {most : Nat} {B : Bk}
theorem LK.ne (h : LK W b r vl vr V most B) : b ≠ r := Blk.ne h.l.1 h.r.1 (by decide)
theorem LK.b_vr (h : LK W b r vl vr V most B) : b ∉ vr.ownBlock.toList := own_notin h.r.2 h.l.1 (by decide)
theorem LK.r_vl (h : LK W b r vl vr V most B) : r ∉ vl.ownBlock.toList := own_notin h.l.2 h.r.1 (by decide)
theorem LK.v_v (h : LK W b r vl vr V most B) : ∀ g, vr.ownBlock = some g → g ∉ vl.ownBlock.toList := fun g hg hm => by
  obtain ⟨c1, h1⟩ := own_blk h.r.2 g (by simp [hg])
  obtain ⟨c2, h2⟩ := own_blk h.l.2 g hm
  exact absurd (h1.inj h2).2 (by decide)
theorem LK.fr0 (h : LK W b r vl vr V most B) (f : Fr [] W W') : LK W' b r vl vr V most B := ⟨h.l.fr f (by simp) (by simp), h.r.fr f (by simp) (by simp)⟩
/-- What it stands on. -/
theorem LK.lts (h : LK W b r vl vr V most B) : b < W.heap.size ∧ r < W.heap.size := ⟨h.l.lt, h.r.lt⟩
end
set_option maxHeartbeats 2000000 in
set_option maxRecDepth 100000 in
theorem booksOk_any (w : World) (b r : Nat) (vl vr : Value) (V : List Int) (most : Nat) (B : Bk) (n k : Nat) (h : LK w b r vl vr V most B) (hB : B.Ok k) (hk : k ≤ 4194304) (hn : n ≤ 1048576) (hV : V.length ≤ 64)
    (hs : (n : Int) + B.p + B.e = B.c + B.d + V.length) :
    Calls Tryd.prog 14 #[.pointer (some ⟨b, 0, none⟩), .pointer (some ⟨r, 0, none⟩), .int .i64 n] w fun e w' => e = .returned (.bool true) ∧ Fr [] w w' := by
  have HBk := Lib.hid (books_any w b vl _ most B h.l)
  have HL := Lib.hid (fun w1 (f : Fr [] w w1) => show (∀ m, Calls Tryd.prog 16 #[.pointer (some ⟨b, 0, none⟩)] (w1.drewN m) fun e w' => e = .returned (.int .i64 V.length) ∧ w1.drewN m = w') ∧ (∀ m, Calls Tryd.prog 42 #[.pointer (some ⟨b, 0, none⟩)] (w1.drewN m) fun e w' => e = .returned (.int .i64 most) ∧ w1.drewN m = w') ∧ RAt w1 r vr V most B from
    ⟨fun m => by have := LnS.len_any (w1.drewN m) b vl _ most B ((h.l.fr f (by simp) (by simp)).drewN m); rwa [List.length_map] at this, fun m => LnS.most_any (w1.drewN m) b vl _ most B ((h.l.fr f (by simp) (by simp)).drewN m), h.r.fr f (by simp) (by simp)⟩)
  obtain ⟨b1, b2, b3, b4⟩ := hB
  obtain ⟨p, c, d, e⟩ := B
  dsimp only at b1 b2 b3 b4 hs
  have a1 : wrap64 ((n : Int) + p) = (n : Int) + p := by unfold wrap64; omega
  have a2 : wrap64 ((n : Int) + p + e) = (n : Int) + p + e := by unfold wrap64; omega
  have a3 : wrap64 (c + d) = c + d := by unfold wrap64; omega
  have a4 : wrap64 (c + d + (V.length : Int)) = c + d + (V.length : Int) := by unfold wrap64; omega
  obtain ⟨m, hm⟩ : ∃ m, m = V.length := ⟨_, rfl⟩
  rw [← hm] at hs a4 HL hV
  have HM := Lib.hid hm
  clear h hm
  go_enter Tryd.func14, Tryd.ntmps14
  go_wp2_with fail
  (with_reducible refine HBk.out.mono ?_)
  rintro e' w1 ⟨rfl, f1⟩
  obtain ⟨h1, h2, h3⟩ := HL.out w1 f1
  obtain ⟨pp, cc, hvr, -, -, -⟩ := h3.form
  rw [hvr, ← HM.out] at h3
  obtain ⟨c0, c1, c2, c3, c4, c5, -⟩ := h3.books
  dsimp only at c2 c3 c4 c5
  have H1 := Lib.hid h1
  have H2 := Lib.hid h2
  have HF := Lib.hid f1
  clear h1 h2 h3 f1 hvr
  go_wp2
  go_quiet (first | (go_at_call 16; exact (H1.out _).mono fun _ _ h => ⟨h.1, _, h.2.symm⟩) | (go_at_call 42; exact (H2.out _).mono fun _ _ h => ⟨h.1, _, h.2.symm⟩))
  go_wp2
  go_ret
  exact ⟨rfl, HF.out.drewN _⟩
end Go.Proofs.YtiimmndhinoaiaaDoor
