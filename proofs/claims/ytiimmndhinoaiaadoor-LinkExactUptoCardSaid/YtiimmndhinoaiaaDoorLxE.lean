/-
  does: All, Take; any step. Printed by genLxE.py.
-/
import Derived.Test.YtiimmndhinoaiaaDoorLxD
namespace Go.Proofs.YtiimmndhinoaiaaDoor
open Go.RowKit Go.Shelf
set_option linter.unusedVariables false
set_option linter.unusedSimpArgs false
attribute [local go_sem] Oper.semAt_some
theorem AllHeld.fr0 {k : Nat} {v : Value} {L : List ByteArray} {W W' : World} (h : LnS.AllHeld k v L W) (f : Fr [] W W') : LnS.AllHeld k v L W' := h.fr f (by simp) (by simp)
/-- An iterator that was taken. -/
def Stab.allS (L : List ByteArray) : Stab := ⟨fun u W => ∃ kb vx, u = .func (.func 32) #[] #[.pointer (some ⟨kb, 0, none⟩)] ∧ LnS.AllHeld kb vx L W, fun u W W' f ⟨kb, vx, h, hA⟩ => ⟨kb, vx, h, AllHeld.fr0 hA f⟩⟩
def Stab.keptS (L : List ByteArray) (x : Value) : Stab := ⟨fun u W => ∃ kb vx, u = .agg #[.func (.func 32) #[] #[.pointer (some ⟨kb, 0, none⟩)], x] ∧ LnS.AllHeld kb vx L W, fun u W W' f ⟨kb, vx, h, hA⟩ => ⟨kb, vx, h, AllHeld.fr0 hA f⟩⟩
theorem Fine.more {n k most : Nat} {V : List Int} {B : Bk} (h : Fine n k most V B) : Fine n (k + 1) most V B := by
  obtain ⟨⟨b1, b2, b3, b4⟩, hs, hl, hi⟩ := h
  exact ⟨⟨by omega, by omega, by omega, by omega⟩, hs, hl, hi⟩
set_option maxRecDepth 100000 in
set_option maxHeartbeats 2000000 in
theorem does_all (w : World) (b r n k most : Nat) (vl vr : Value) (V : List Int) (B : Bk) (sv si : Int) (h : LK w b r vl vr V most B) (hF : Fine n k most V B) (hk : k ≤ 2097152) (h1 : 1 ≤ most) (hm : most ≤ 64) (hT : TB w) (hv : I64 sv) :
    Calls Tryd.prog 13 #[.pointer (some ⟨b, 0, none⟩), .pointer (some ⟨r, 0, none⟩), .agg #[.int .i64 6, .int .i64 sv, .int .i64 si]] w (DoesPost w b r vl vr n k most) := by
  obtain ⟨w1, hw1⟩ : ∃ w1, w.alloc (.cells #[.int .i64 6, .int .i64 sv, .int .i64 si] 39) = w1 := ⟨_, rfl⟩
  have F1 : Fr [] w w1 := by rw [← hw1]; exact (Fr.refl _ _).alloc _
  have hb : Blk w1 w.heap.size #[.int .i64 6, .int .i64 sv, .int .i64 si] 39 := by rw [← hw1]; exact Blk.new w _ _
  have d0 := hb.at 0 (v := .int .i64 6) rfl
  rw [← hw1] at d0
  have HS := Lib.hid (And.intro (h.fr0 F1) (And.intro F1 (hT.fr F1 (by simp))))
  have HQ := Lib.hid (And.intro hb hw1)
  have HLB := Lib.hid (show w.heap.size ∉ b :: vl.ownBlock.toList ∧ w.heap.size ∉ [r] from ⟨fun hm => by
      rcases List.mem_cons.1 hm with q | q
      · have := h.l.lt; omega
      · have := own_lt h.l.2 (by simpa using q); omega, fun hm => by simp at hm; have := h.r.lt; omega⟩)
  obtain ⟨pr, cr, hvr, -, -, -⟩ := h.r.form
  rw [hvr] at HS h ⊢
  have HF := Lib.hid (And.intro hF (And.intro (show V.length ≤ 64 by have := hF.len; omega) hT))
  clear h F1 hb hw1 hF hT hvr
  go_enter Tryd.func13, Tryd.ntmps13
  go_wp2_with fail
  obtain ⟨hb, hw1⟩ := HQ.out
  rw [hw1]
  clear hw1 HQ d0 hb
  refine region_grow (by kernel_rfl) (by kernel_rfl) [.is (.pointer (some ⟨b, 0, none⟩)), .allS (V.map txt), .is (.pointer (some ⟨r, 0, none⟩)), .is (.pointer (some ⟨r, 0, none⟩)), .is (.pointer (some ⟨r, 0, none⟩)), .is (.slice pr V.length cr), .keptS (V.map txt) (.slice pr V.length cr), .is (.bool true), .is (.bool true)] 82 rfl (by kernel_rfl) [(0, 74), (1, 75), (2, 76), (3, 77), (4, 78), (5, 79), (6, 80), (7, 81), (8, 6)] (by kernel_rfl) ?_ ?_
  · intro q a1 W1 i hi hnq hd hG K hK
    have hlt : i < 9 := hi
    have hc : i = 0 ∨ i = 1 ∨ i = 2 ∨ i = 3 ∨ i = 4 ∨ i = 5 ∨ i = 6 ∨ i = 7 ∨ i = 8 := by omega
    rcases hc with rfl | rfl | rfl | rfl | rfl | rfl | rfl | rfl | rfl
    · have e0 := hG.old 0 (by kernel_rfl)
      refine op_do rfl (wanted_none rfl) hK (fun K' hK' => ?_)
      unfold Oper.wp
      go_simp
      exact hK' _ _ (Fr.refl _ _) rfl
    · have e74 := hG.val (v := .pointer (some ⟨b, 0, none⟩)) 0 74 (hd _ rfl ⟨0, .data⟩ (by simp) rfl) rfl rfl
      refine op_do rfl (wanted_none rfl) hK (fun K' hK' => ?_)
      unfold Oper.wp
      go_simp
      refine (all_all W1 b vl (V.map txt) most B (HS.out.1.fr0 hG.grown).l (by rw [List.length_map]; exact HF.out.2.1)).mono ?_
      rintro e W2 ⟨kb, vx, rfl, hA, -, -, f⟩
      exact hK' _ _ f ⟨kb, vx, rfl, hA⟩
    · have e1 := hG.old 1 (by kernel_rfl)
      refine op_do rfl (wanted_none rfl) hK (fun K' hK' => ?_)
      unfold Oper.wp
      go_simp
      exact hK' _ _ (Fr.refl _ _) rfl
    · have e76 := hG.val (v := .pointer (some ⟨r, 0, none⟩)) 2 76 (hd _ rfl ⟨2, .data⟩ (by simp) rfl) rfl rfl
      refine op_do rfl (wanted_none rfl) hK (fun K' hK' => ?_)
      unfold Oper.wp
      go_simp
      exact hK' _ _ (Fr.refl _ _) rfl
    · have e77 := hG.val (v := .pointer (some ⟨r, 0, none⟩)) 3 77 (hd _ rfl ⟨3, .data⟩ (by simp) rfl) rfl rfl
      refine op_do rfl (wanted_none rfl) hK (fun K' hK' => ?_)
      unfold Oper.wp
      go_simp
      exact hK' _ _ (Fr.refl _ _) rfl
    · have e78 := hG.val (v := .pointer (some ⟨r, 0, none⟩)) 4 78 (hd _ rfl ⟨4, .data⟩ (by simp) rfl) rfl rfl
      have c0 := (HS.out.1.fr0 hG.grown).r.books.1
      refine op_do rfl (wanted_none rfl) hK (fun K' hK' => ?_)
      unfold Oper.wp
      go_simp
      exact hK' _ _ (Fr.refl _ _) rfl
    · obtain ⟨u1, e75, s1⟩ := hG.get 1 75 (hd _ rfl ⟨1, .data⟩ (by simp) rfl) rfl
      have e79 := hG.val (v := .slice pr V.length cr) 5 79 (hd _ rfl ⟨5, .data⟩ (by simp) rfl) rfl rfl
      obtain ⟨kb, vx, rfl, hA⟩ := s1
      refine op_do rfl (wanted_none rfl) hK (fun K' hK' => ?_)
      unfold Oper.wp
      go_simp
      exact hK' _ _ (Fr.refl _ _) ⟨kb, vx, rfl, hA⟩
    · obtain ⟨u6, e80, s6⟩ := hG.get 6 80 (hd _ rfl ⟨6, .data⟩ (by simp) rfl) rfl
      obtain ⟨kb, vx, rfl, hA⟩ := s6
      refine op_do rfl (wanted_none rfl) hK (fun K' hK' => ?_)
      unfold Oper.wp
      go_simp
      refine (tells_any W1 kb vx V pr V.length cr hA (by have := HF.out.2.1; omega) HF.out.1.num (HS.out.2.2.fr hG.grown (by simp)) ((HS.out.1.fr0 hG.grown).r.rd HF.out.2.1) rfl).mono ?_
      rintro e W2 ⟨rfl, f⟩
      exact hK' _ _ f rfl
    · have e81 := hG.val (v := .bool true) 7 81 (hd _ rfl ⟨7, .data⟩ (by simp) rfl) rfl rfl
      refine op_do rfl (wanted_none rfl) hK (fun K' hK' => ?_)
      unfold Oper.wp
      go_simp
      exact hK' _ _ (Fr.refl _ _) rfl
  · intro vs W1 f1 hv
    have r0 : vs 0 = .pointer (some ⟨b, 0, none⟩) := hv 0 74 (by decide) rfl
    have r1 := hv 1 75 (by decide) rfl
    have r2 : vs 2 = .pointer (some ⟨r, 0, none⟩) := hv 2 76 (by decide) rfl
    have r3 : vs 3 = .pointer (some ⟨r, 0, none⟩) := hv 3 77 (by decide) rfl
    have r4 : vs 4 = .pointer (some ⟨r, 0, none⟩) := hv 4 78 (by decide) rfl
    have r5 : vs 5 = .slice pr V.length cr := hv 5 79 (by decide) rfl
    have r6 := hv 6 80 (by decide) rfl
    have r7 : vs 7 = .bool true := hv 7 81 (by decide) rfl
    have r8 : vs 8 = .bool true := hv 8 6 (by decide) rfl
    simp only [lay, List.foldl_cons, List.foldl_nil, r0, r2, r3, r4, r5, r7, r8]
    simp only [List.setIfInBounds_toArray, List.set_cons_zero, List.set_cons_succ]
    clear hv r0 r2 r3 r4 r5 r7 r8
    generalize vs 1 = x1 at *
    generalize vs 6 = x6 at *
    clear r1 r6
    go_wp2_with fail
    exact bodyPost_ret (v := .bool true) (by simp [results, Tryd.results13, go_sem]) rfl ⟨rfl, vl, .slice pr V.length cr, V, B, HS.out.1.fr0 f1, HF.out.1.more, Mv.refl _ _, Mv.refl _ _, (HS.out.2.1.trans f1 (by simp)).mono (by simp)⟩
set_option maxRecDepth 100000 in
set_option maxHeartbeats 2000000 in
theorem does_take (w : World) (b r n k most : Nat) (vl vr : Value) (V : List Int) (B : Bk) (sv si : Int) (h : LK w b r vl vr V most B) (hF : Fine n k most V B) (hk : k ≤ 2097152) (h1 : 1 ≤ most) (hm : most ≤ 64) (hT : TB w) (hv : I64 sv) (hz0 : 0 ≠ b ∧ 0 ≠ r ∧ 0 ∉ vl.ownBlock.toList) :
    Calls Tryd.prog 13 #[.pointer (some ⟨b, 0, none⟩), .pointer (some ⟨r, 0, none⟩), .agg #[.int .i64 2, .int .i64 sv, .int .i64 si]] w (DoesPost w b r vl vr n k most) := by
  obtain ⟨w1, hw1⟩ : ∃ w1, w.alloc (.cells #[.int .i64 2, .int .i64 sv, .int .i64 si] 39) = w1 := ⟨_, rfl⟩
  have F1 : Fr [] w w1 := by rw [← hw1]; exact (Fr.refl _ _).alloc _
  have hb : Blk w1 w.heap.size #[.int .i64 2, .int .i64 sv, .int .i64 si] 39 := by rw [← hw1]; exact Blk.new w _ _
  have d0 := hb.at 0 (v := .int .i64 2) rfl
  rw [← hw1] at d0
  have HS := Lib.hid (And.intro (h.fr0 F1) (And.intro F1 (hT.fr F1 (by simp))))
  have HQ := Lib.hid (And.intro hb hw1)
  have HLB := Lib.hid (show w.heap.size ∉ b :: vl.ownBlock.toList ∧ w.heap.size ∉ [r] from ⟨fun hm => by
      rcases List.mem_cons.1 hm with q | q
      · have := h.l.lt; omega
      · have := own_lt h.l.2 (by simpa using q); omega, fun hm => by simp at hm; have := h.r.lt; omega⟩)
  have d2 := hb.at 2 (v := .int .i64 si) rfl
  rw [← hw1] at d2
  obtain ⟨a, x, V2, B2, hF2, hx, hz, hL, hD⟩ := both_take b r hF hk hm si
  have hsx : (if a then txt x else ⟨#[]⟩) = txt x := by
    cases a with
    | true => rfl
    | false => rw [hz rfl]; rfl
  rw [hsx] at hL
  have HB := Lib.hid (And.intro hL hD)
  have HF := Lib.hid hF2
  have HTX := Lib.hid (fun W hW => text_any W x hx hW)
  clear hsx
  obtain ⟨s, hs⟩ : ∃ s, s = txt x := ⟨_, rfl⟩
  rw [← hs] at HTX HB
  clear h F1 hb hw1 hL hD hF hF2 hT hs hz hx
  go_enter Tryd.func13, Tryd.ntmps13
  go_wp2_with fail
  obtain ⟨hb, hw1⟩ := HQ.out
  rw [hw1]
  (with_reducible refine (HB.out.1 w1 vl HS.out.1.l).mono ?_)
  rintro e W2 hp
  have hp1 : P1 w1 b r vl V2 most B2 W2 := P1.of hp (Fr.refl _ _)
  obtain ⟨rfl, -, -, -, f⟩ := hp
  have hb2 := f.blk hb HLB.out.1
  have d3 := hb2.at 2 (v := .int .i64 si) rfl
  obtain ⟨b5, hb5⟩ : ∃ b5, b5 = w.heap.size := ⟨_, rfl⟩
  have HQ2 := Lib.hid (And.intro hp1 hb2)
  rw [← hb5] at d3 HQ2 HLB ⊢
  clear hb hw1 HQ d0 d2 hp1 f hb2 hb5
  go_wp2_with fail
  obtain ⟨hp1, hb2⟩ := HQ2.out
  have hp0 := hp1
  obtain ⟨vl1, hl1, -, f1⟩ := hp0
  (with_reducible refine (HB.out.2 W2 vr (HS.out.1.mid f1)).mono ?_)
  rintro e W3 hp
  have hp2 : P2 w1 b r vl vr V2 most B2 W3 := P2.of HS.out.1 hp1 hp
  obtain ⟨rfl, -, -, -, f3⟩ := hp
  have hT3 : TB W3 := by
    obtain ⟨-, -, -, -, -, f4⟩ := hp2
    refine HS.out.2.2.fr f4 fun hm => ?_
    have h0 := hz0
    rcases List.mem_cons.1 hm with q | q
    · exact h0.1 q
    · rcases List.mem_cons.1 q with q | q
      · exact h0.2.1 q
      · exact h0.2.2 q
  have HE := Lib.hid (And.intro hp2 hT3)
  clear hp1 hb2 hl1 f1 hp2 f3 hT3 d3
  go_wp2_with fail
  (with_reducible refine (HTX.out W3 HE.out.2).mono ?_)
  rintro e W4 ⟨rfl, f4⟩
  have HE4 := Lib.hid (HE.out.1.grow f4)
  clear f4
  go_wp2
  refine bodyPost_ret (v := .bool true) (by simp [results, Tryd.results13, go_sem]) rfl (DoesPost.of HE4.out HF.out HS.out.2.1)
theorem does_any (w : World) (b r n k most : Nat) (vl vr : Value) (V : List Int) (B : Bk) (kd sv si : Int) (h : LK w b r vl vr V most B) (hF : Fine n k most V B) (hk : k ≤ 2097152) (h1 : 1 ≤ most) (hm : most ≤ 64) (hT : TB w) (hv : I64 sv) (hz0 : 0 ≠ b ∧ 0 ≠ r ∧ 0 ∉ vl.ownBlock.toList) :
    Calls Tryd.prog 13 #[.pointer (some ⟨b, 0, none⟩), .pointer (some ⟨r, 0, none⟩), .agg #[.int .i64 kd, .int .i64 sv, .int .i64 si]] w (DoesPost w b r vl vr n k most) := by
  by_cases e1 : kd = 1
  · subst e1; exact does_put w b r n k most vl vr V B sv si h hF hk h1 hm hT hv
  by_cases e2 : kd = 2
  · subst e2; exact does_take w b r n k most vl vr V B sv si h hF hk h1 hm hT hv hz0
  by_cases e3 : kd = 3
  · subst e3; exact does_lose w b r n k most vl vr V B sv si h hF hk h1 hm hT hv
  by_cases e4 : kd = 4
  · subst e4; exact does_twice w b r n k most vl vr V B sv si h hF hk h1 hm hT hv
  by_cases e6 : kd = 6
  · subst e6; exact does_all w b r n k most vl vr V B sv si h hF hk h1 hm hT hv
  exact does_else w b r n k most vl vr V B kd sv si h hF hk h1 hm hT hv e1 e2 e3 e4 e6
end Go.Proofs.YtiimmndhinoaiaaDoor
