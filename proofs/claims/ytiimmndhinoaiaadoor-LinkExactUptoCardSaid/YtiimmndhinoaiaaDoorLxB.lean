/-
  A call on both lines: both answer alike.
-/
import Derived.Test.YtiimmndhinoaiaaDoorLxA
namespace Go.Proofs.YtiimmndhinoaiaaDoor
open Go.RowKit Go.Shelf
set_option linter.unusedVariables false
/-- What lies in v' lay in v, or is new. -/
def Mv (w : World) (v v' : Value) : Prop := ∀ g, v'.ownBlock = some g → v.ownBlock = some g ∨ w.heap.size ≤ g
theorem Mv.refl (w : World) (v : Value) : Mv w v v := fun g h => .inl h
/-- What a call leaves of the line of texts, of the document's. -/
def LPost (w : World) (b : Nat) (vl : Value) (V' : List Int) (most : Nat) (B' : Bk) (res : Value) (e : Ending) (w' : World) : Prop :=
  e = .returned res ∧ ∃ vl', LnS.LineAt w' b vl' (V'.map txt) most B' ∧ Mv w vl vl' ∧ Fr (b :: vl.ownBlock.toList) w w'
def DPost (w : World) (r : Nat) (vr : Value) (V' : List Int) (most : Nat) (B' : Bk) (res : Value) (e : Ending) (w' : World) : Prop :=
  e = .returned res ∧ ∃ vr', RAt w' r vr' V' most B' ∧ Mv w vr vr' ∧ Fr [r] w w'
/-- A line in order: what is under way, and the books behind k steps; n were handed in. -/
structure Fine (n k most : Nat) (V : List Int) (B : Bk) : Prop where
  bk : B.Ok k
  sum : (n : Int) + B.p + B.e = B.c + B.d + V.length
  len : V.length ≤ most
  num : ∀ x ∈ V, I64 x
theorem wrap_up {x : Int} {k : Nat} (h : 0 ≤ x ∧ x ≤ k) (hk : k ≤ 2097152) : wrap64 (x + 1) = x + 1 := by unfold wrap64; omega
theorem map_getD (V : List Int) (k : Nat) (hk : k < V.length) : (V.map txt).getD k ⟨#[]⟩ = txt (V.getD k 0) := by simp [List.getD_eq_getElem?_getD, hk]
theorem map_erase (V : List Int) (k : Nat) : (V.map txt).eraseIdx k = (V.eraseIdx k).map txt := by
  rw [List.eraseIdx_eq_take_drop_succ, List.eraseIdx_eq_take_drop_succ, List.map_append, List.map_take, List.map_drop]
section
variable {n k most : Nat} {V : List Int} {B : Bk}
theorem both_put (b r : Nat) (h : Fine n k most V B) (hk : k ≤ 2097152) (h1 : 1 ≤ most) (hm : most ≤ 64) (x : Int) (hx : I64 x) : ∃ (a : Bool) (V' : List Int) (B' : Bk), Fine n (k + 1) most V' B' ∧
    (∀ W vl, LnS.LineAt W b vl (V.map txt) most B → Calls Tryd.prog 33 #[.pointer (some ⟨b, 0, none⟩), .string (txt x)] W (LPost W b vl V' most B' (.bool a))) ∧
    (∀ W vr, RAt W r vr V most B → Calls Tryd.prog 34 #[.pointer (some ⟨r, 0, none⟩), .int .i64 x] W (DPost W r vr V' most B' (.bool a))) := by
  obtain ⟨⟨b1, b2, b3, b4⟩, hs, hl, hi⟩ := h
  have e1 := wrap_up b1 hk
  have e3 := wrap_up b3 hk
  by_cases hf : V.length < most
  · refine ⟨true, V ++ [x], B.set 2 (wrap64 (B.p + 1)), ⟨⟨?_, ?_, ?_, ?_⟩, ?_, ?_, ?_⟩, fun W vl hL => ?_, fun W vr hR => ?_⟩
    · show 0 ≤ wrap64 (B.p + 1) ∧ wrap64 (B.p + 1) ≤ _; rw [e1]; omega
    · show 0 ≤ B.c ∧ B.c ≤ _; omega
    · show 0 ≤ B.d ∧ B.d ≤ _; omega
    · show 0 ≤ B.e ∧ B.e ≤ _; omega
    · show (n : Int) + wrap64 (B.p + 1) + B.e = B.c + B.d + _; rw [e1, List.length_append, List.length_singleton]; omega
    · rw [List.length_append, List.length_singleton]; omega
    · intro y hy; rcases List.mem_append.1 hy with q | q
      · exact hi y q
      · simp at q; subst q; exact hx
    · refine (LnS.put_ok W b vl (V.map txt) most B (txt x) hL hm (by rw [List.length_map]; exact hf)).mono ?_
      rintro e w' ⟨rfl, v', h1, h2, h3⟩
      refine ⟨rfl, v', by rw [List.map_append, List.map_cons, List.map_nil]; exact h1, fun g hg => ?_, h3⟩
      rcases h2 with q | ⟨g', q, hg'⟩
      · exact .inl (by rw [← q]; exact hg)
      · rw [hg] at q; cases q; exact .inr hg'
    · refine (radd_ok W r vr V most B x hR hf hm).mono ?_
      rintro e w' ⟨rfl, v', h1, h2, h3⟩
      exact ⟨rfl, v', h1, fun g hg => h2.elim (fun q => .inl (by rw [← q]; exact hg)) (fun q => .inr (q g hg)), h3⟩
  · refine ⟨false, V, (B.set 2 (wrap64 (B.p + 1))).set 4 (wrap64 (B.d + 1)), ⟨⟨?_, ?_, ?_, ?_⟩, ?_, hl, hi⟩, fun W vl hL => ?_, fun W vr hR => ?_⟩
    · show 0 ≤ wrap64 (B.p + 1) ∧ wrap64 (B.p + 1) ≤ _; rw [e1]; omega
    · show 0 ≤ B.c ∧ B.c ≤ _; omega
    · show 0 ≤ wrap64 (B.d + 1) ∧ wrap64 (B.d + 1) ≤ _; rw [e3]; omega
    · show 0 ≤ B.e ∧ B.e ≤ _; omega
    · show (n : Int) + wrap64 (B.p + 1) + B.e = B.c + wrap64 (B.d + 1) + _; rw [e1, e3]; omega
    · refine (LnS.put_full W b vl (V.map txt) most B (txt x) hL h1 (by rw [List.length_map]; omega)).mono ?_
      rintro e w' ⟨rfl, h1, h2⟩
      exact ⟨rfl, vl, h1, Mv.refl _ _, h2.mono (by simp)⟩
    · refine (radd_full W r vr V most B x hR (by omega)).mono ?_
      rintro e w' ⟨rfl, v', h1, h2, h3⟩
      exact ⟨rfl, v', h1, fun g hg => h2.elim (fun q => .inl (by rw [← q]; exact hg)) (fun q => .inr (q g hg)), h3⟩

theorem both_take (b r : Nat) (h : Fine n k most V B) (hk : k ≤ 2097152) (hm : most ≤ 64) (i : Int) : ∃ (a : Bool) (x : Int) (V' : List Int) (B' : Bk), Fine n (k + 1) most V' B' ∧ I64 x ∧ (a = false → x = 0) ∧
    (∀ W vl, LnS.LineAt W b vl (V.map txt) most B → Calls Tryd.prog 35 #[.pointer (some ⟨b, 0, none⟩), .int .i64 i] W (LPost W b vl V' most B' (.tuple #[.string (if a then txt x else ⟨#[]⟩), .bool a]))) ∧
    (∀ W vr, RAt W r vr V most B → Calls Tryd.prog 36 #[.pointer (some ⟨r, 0, none⟩), .int .i64 i] W (DPost W r vr V' most B' (.tuple #[.int .i64 x, .bool a]))) := by
  obtain ⟨⟨b1, b2, b3, b4⟩, hs, hl, hi⟩ := h
  have e1 := wrap_up b2 hk
  by_cases h0 : V.length = 0
  · obtain rfl : V = [] := List.eq_nil_of_length_eq_zero h0
    refine ⟨false, 0, [], B, ⟨⟨by omega, by omega, by omega, by omega⟩, hs, hl, hi⟩, by unfold I64; omega, fun _ => rfl, fun W vl hL => ?_, fun W vr hR => ?_⟩
    · refine (LnS.take_no W b vl most B i hL).mono ?_
      rintro e w' ⟨rfl, rfl⟩
      exact ⟨rfl, vl, hL, Mv.refl _ _, Fr.refl _ _⟩
    · refine (rtake_no W r vr most B i hR).mono ?_
      rintro e w' ⟨rfl, rfl⟩
      exact ⟨rfl, vr, hR, Mv.refl _ _, Fr.refl _ _⟩
  · have hlt := LnI.place_lt i (n := V.length) (by omega)
    have hx : V.getD (LnI.place i V.length) 0 ∈ V := by rw [List.getD_eq_getElem?_getD, List.getElem?_eq_getElem hlt]; exact List.getElem_mem hlt
    refine ⟨true, V.getD (LnI.place i V.length) 0, V.eraseIdx (LnI.place i V.length), B.set 3 (wrap64 (B.c + 1)), ⟨⟨?_, ?_, ?_, ?_⟩, ?_, ?_, fun y hy => hi y (List.mem_of_mem_eraseIdx hy)⟩, hi _ hx, (fun q => by cases q), fun W vl hL => ?_, fun W vr hR => ?_⟩
    · show 0 ≤ B.p ∧ B.p ≤ _; omega
    · show 0 ≤ wrap64 (B.c + 1) ∧ wrap64 (B.c + 1) ≤ _; rw [e1]; omega
    · show 0 ≤ B.d ∧ B.d ≤ _; omega
    · show 0 ≤ B.e ∧ B.e ≤ _; omega
    · show (n : Int) + B.p + B.e = wrap64 (B.c + 1) + B.d + _; rw [e1, List.length_eraseIdx, if_pos hlt]; omega
    · rw [List.length_eraseIdx, if_pos hlt]; omega
    · refine (LnS.take_ok W b vl (V.map txt) most B i hL (by rw [List.length_map]; omega) (by rw [List.length_map]; omega)).mono ?_
      rintro e w' ⟨he, v', h1, h2, h3⟩
      rw [List.length_map, show LnS.place i V.length = LnI.place i V.length from rfl] at he h1
      rw [map_getD V _ hlt] at he
      refine ⟨he, v', by rw [← map_erase]; exact h1, fun g hg => .inl (by rw [← h2]; exact hg), h3⟩
    · refine (rtake_ok W r vr V most B i hR (by omega) (by omega)).mono ?_
      rintro e w' ⟨rfl, v', h1, h2, h3⟩
      exact ⟨rfl, v', h1, fun g hg => h2.elim (fun q => .inl (by rw [← q]; exact hg)) (fun q => .inr (q g hg)), h3⟩

theorem both_lose (b r : Nat) (h : Fine n k most V B) (hk : k ≤ 2097152) (hm : most ≤ 64) (i : Int) : ∃ (a : Bool) (x : Int) (V' : List Int) (B' : Bk), Fine n (k + 1) most V' B' ∧ I64 x ∧ (a = false → x = 0) ∧
    (∀ W vl, LnS.LineAt W b vl (V.map txt) most B → Calls Tryd.prog 37 #[.pointer (some ⟨b, 0, none⟩), .int .i64 i] W (LPost W b vl V' most B' (.bool a))) ∧
    (∀ W vr, RAt W r vr V most B → Calls Tryd.prog 38 #[.pointer (some ⟨r, 0, none⟩), .int .i64 i] W (DPost W r vr V' most B' (.bool a))) := by
  obtain ⟨⟨b1, b2, b3, b4⟩, hs, hl, hi⟩ := h
  have e1 := wrap_up b3 hk
  by_cases h0 : V.length = 0
  · obtain rfl : V = [] := List.eq_nil_of_length_eq_zero h0
    refine ⟨false, 0, [], B, ⟨⟨by omega, by omega, by omega, by omega⟩, hs, hl, hi⟩, by unfold I64; omega, fun _ => rfl, fun W vl hL => ?_, fun W vr hR => ?_⟩
    · refine (LnS.lose_no W b vl most B i hL).mono ?_
      rintro e w' ⟨rfl, rfl⟩
      exact ⟨rfl, vl, hL, Mv.refl _ _, Fr.refl _ _⟩
    · refine (rlose_no W r vr most B i hR).mono ?_
      rintro e w' ⟨rfl, rfl⟩
      exact ⟨rfl, vr, hR, Mv.refl _ _, Fr.refl _ _⟩
  · have hlt := LnI.place_lt i (n := V.length) (by omega)
    have hx : V.getD (LnI.place i V.length) 0 ∈ V := by rw [List.getD_eq_getElem?_getD, List.getElem?_eq_getElem hlt]; exact List.getElem_mem hlt
    refine ⟨true, V.getD (LnI.place i V.length) 0, V.eraseIdx (LnI.place i V.length), B.set 4 (wrap64 (B.d + 1)), ⟨⟨?_, ?_, ?_, ?_⟩, ?_, ?_, fun y hy => hi y (List.mem_of_mem_eraseIdx hy)⟩, hi _ hx, (fun q => by cases q), fun W vl hL => ?_, fun W vr hR => ?_⟩
    · show 0 ≤ B.p ∧ B.p ≤ _; omega
    · show 0 ≤ B.c ∧ B.c ≤ _; omega
    · show 0 ≤ wrap64 (B.d + 1) ∧ wrap64 (B.d + 1) ≤ _; rw [e1]; omega
    · show 0 ≤ B.e ∧ B.e ≤ _; omega
    · show (n : Int) + B.p + B.e = B.c + wrap64 (B.d + 1) + _; rw [e1, List.length_eraseIdx, if_pos hlt]; omega
    · rw [List.length_eraseIdx, if_pos hlt]; omega
    · refine (LnS.lose_ok W b vl (V.map txt) most B i hL (by rw [List.length_map]; omega) (by rw [List.length_map]; omega)).mono ?_
      rintro e w' ⟨he, v', h1, h2, h3⟩
      rw [List.length_map, show LnS.place i V.length = LnI.place i V.length from rfl] at h1
      skip
      refine ⟨he, v', by rw [← map_erase]; exact h1, fun g hg => .inl (by rw [← h2]; exact hg), h3⟩
    · refine (rlose_ok W r vr V most B i hR (by omega) (by omega)).mono ?_
      rintro e w' ⟨rfl, v', h1, h2, h3⟩
      exact ⟨rfl, v', h1, fun g hg => h2.elim (fun q => .inl (by rw [← q]; exact hg)) (fun q => .inr (q g hg)), h3⟩

theorem both_twice (b r : Nat) (h : Fine n k most V B) (hk : k ≤ 2097152) (hm : most ≤ 64) (i : Int) : ∃ (a : Bool) (V' : List Int) (B' : Bk), Fine n (k + 1) most V' B' ∧
    (∀ W vl, LnS.LineAt W b vl (V.map txt) most B → Calls Tryd.prog 39 #[.pointer (some ⟨b, 0, none⟩), .int .i64 i] W (LPost W b vl V' most B' (.bool a))) ∧
    (∀ W vr, RAt W r vr V most B → Calls Tryd.prog 40 #[.pointer (some ⟨r, 0, none⟩), .int .i64 i] W (DPost W r vr V' most B' (.bool a))) := by
  obtain ⟨⟨b1, b2, b3, b4⟩, hs, hl, hi⟩ := h
  have e4 := wrap_up b4 hk
  have hsame : Fine n (k + 1) most V B := ⟨⟨by omega, by omega, by omega, by omega⟩, hs, hl, hi⟩
  by_cases h0 : V.length = 0
  · obtain rfl : V = [] := List.eq_nil_of_length_eq_zero h0
    refine ⟨false, [], B, hsame, fun W vl hL => ?_, fun W vr hR => ?_⟩
    · refine (LnS.twice_no W b vl most B i hL).mono ?_
      rintro e w' ⟨rfl, f⟩
      exact ⟨rfl, vl, hL.fr f (by simp) (by simp), Mv.refl _ _, f.mono (by simp)⟩
    · refine (rtwice_no W r vr most B i hR).mono ?_
      rintro e w' ⟨rfl, f⟩
      exact ⟨rfl, vr, hR.fr f (by simp) (by simp), Mv.refl _ _, f.mono (by simp)⟩
  · by_cases hf : V.length < most
    · have hlt := LnI.place_lt i (n := V.length) (by omega)
      have hx : V.getD (LnI.place i V.length) 0 ∈ V := by rw [List.getD_eq_getElem?_getD, List.getElem?_eq_getElem hlt]; exact List.getElem_mem hlt
      refine ⟨true, V ++ [V.getD (LnI.place i V.length) 0], B.set 5 (wrap64 (B.e + 1)), ⟨⟨?_, ?_, ?_, ?_⟩, ?_, ?_, ?_⟩, fun W vl hL => ?_, fun W vr hR => ?_⟩
      · show 0 ≤ B.p ∧ B.p ≤ _; omega
      · show 0 ≤ B.c ∧ B.c ≤ _; omega
      · show 0 ≤ B.d ∧ B.d ≤ _; omega
      · show 0 ≤ wrap64 (B.e + 1) ∧ wrap64 (B.e + 1) ≤ _; rw [e4]; omega
      · show (n : Int) + B.p + wrap64 (B.e + 1) = B.c + B.d + _; rw [e4, List.length_append, List.length_singleton]; omega
      · rw [List.length_append, List.length_singleton]; omega
      · intro y hy; rcases List.mem_append.1 hy with q | q
        · exact hi y q
        · simp at q; subst q; exact hi _ (by simpa [List.getD_eq_getElem?_getD] using hx)
      · have ht := LnS.twice_ok W b vl (V.map txt) most B i hL (by rw [List.length_map]; omega) hm (by rw [List.length_map]; exact hf)
        rw [List.length_map, show LnS.place i V.length = LnI.place i V.length from rfl, map_getD V _ hlt] at ht
        refine ht.mono ?_
        rintro e w' ⟨rfl, v', h1, h2, h3⟩
        refine ⟨rfl, v', by rw [List.map_append, List.map_cons, List.map_nil]; exact h1, fun g hg => ?_, h3⟩
        rcases h2 with q | ⟨g', q, hg'⟩
        · exact .inl (by rw [← q]; exact hg)
        · rw [hg] at q; cases q; exact .inr hg'
      · refine (rtwice_ok W r vr V most B i hR (by omega) hm hf).mono ?_
        rintro e w' ⟨rfl, v', h1, h2, h3⟩
        exact ⟨rfl, v', h1, fun g hg => h2.elim (fun q => .inl (by rw [← q]; exact hg)) (fun q => .inr (q g hg)), h3⟩
    · refine ⟨false, V, B, hsame, fun W vl hL => ?_, fun W vr hR => ?_⟩
      · refine (LnS.twice_full W b vl (V.map txt) most B i hL (by rw [List.length_map]; omega) (by rw [List.length_map]; omega) (by rw [List.length_map]; omega)).mono ?_
        rintro e w' ⟨rfl, f⟩
        exact ⟨rfl, vl, hL.fr f (by simp) (by simp), Mv.refl _ _, f.mono (by simp)⟩
      · refine (rtwice_full W r vr V most B i hR (by omega) (by omega) (by omega)).mono ?_
        rintro e w' ⟨rfl, f⟩
        exact ⟨rfl, vr, hR.fr f (by simp) (by simp), Mv.refl _ _, f.mono (by simp)⟩
end
end Go.Proofs.YtiimmndhinoaiaaDoor
