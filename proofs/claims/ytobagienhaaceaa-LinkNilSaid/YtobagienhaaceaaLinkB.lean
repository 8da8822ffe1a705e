/-
  Put and named of a line.
-/
import Derived.Test.YtobagienhaaceaaLinkA
namespace Go.Proofs.Ytobagienhaaceaa
open Go.RowKit
set_option linter.unusedVariables false

/-- A book is written. -/
theorem LineAt.book {W : World} {b : Nat} {v : Value} {L : List Int} {most : Nat} (h : LineAt W b v L most) (i : Nat) (hi : 2 ≤ i ∧ i ≤ 5) (x : Int) : LineAt (W.setCell ⟨b, i, none⟩ (.int .i64 x)) b v L most := by
  obtain ⟨⟨p, c, d, e, h1⟩, h2⟩ := h
  have hn := own_notin h2 h1 (by decide)
  refine ⟨?_, own_fr h2 ((Fr.refl [b] W).setCell _ _ (.inl (by simp))) (fun g hg hm => hn (by simp at hm; subst hm; simp [hg]))⟩
  have hs := h1.set i (.int .i64 x)
  rcases (show i = 2 ∨ i = 3 ∨ i = 4 ∨ i = 5 by omega) with rfl | rfl | rfl | rfl
  · exact ⟨x, c, d, e, hs⟩
  · exact ⟨p, x, d, e, hs⟩
  · exact ⟨p, c, x, e, hs⟩
  · exact ⟨p, c, d, x, hs⟩
theorem LineAt.books {W : World} {b : Nat} {v : Value} {L : List Int} {most : Nat} (h : LineAt W b v L most) :
    ∃ p c d e : Int, W.cell? ⟨b, 0, none⟩ = some v ∧ W.cell? ⟨b, 1, none⟩ = some (.int .i64 most) ∧ W.cell? ⟨b, 2, none⟩ = some (.int .i64 p) ∧ W.cell? ⟨b, 3, none⟩ = some (.int .i64 c) ∧ W.cell? ⟨b, 4, none⟩ = some (.int .i64 d) ∧ W.cell? ⟨b, 5, none⟩ = some (.int .i64 e) ∧
      (∀ i, W.frozen? ⟨b, i, none⟩ = false) := by
  obtain ⟨⟨p, c, d, e, h1⟩, h2⟩ := h
  exact ⟨p, c, d, e, h1.at 0 rfl, h1.at 1 rfl, h1.at 2 rfl, h1.at 3 rfl, h1.at 4 rfl, h1.at 5 rfl, fun i => h1.free i⟩
theorem LineAt.notin {W : World} {b : Nat} {v : Value} {L : List Int} {most : Nat} (h : LineAt W b v L most) : b ∉ v.ownBlock.toList := by
  obtain ⟨⟨p, c, d, e, h1⟩, h2⟩ := h
  exact own_notin h2 h1 (by decide)

/-- What Put leaves. -/
def PutPost (w : World) (b : Nat) (v : Value) (L : List Int) (most : Nat) (x : Int) (e : Ending) (w' : World) : Prop :=
  e = .returned (.bool true) ∧ ∃ v', LineAt w' b v' (L ++ [x]) most ∧ Moved w v v' ∧ Fr (b :: v.ownBlock.toList) w w'

set_option maxHeartbeats 1000000 in
theorem put_ok (w : World) (b : Nat) (v : Value) (L : List Int) (most : Nat) (x : Int) (h : LineAt w b v L most) (hm : most ≤ 64) (hl : L.length < most) :
    Calls Try.prog 7 #[.pointer (some ⟨b, 0, none⟩), .int .i64 x] w (PutPost w b v L most x) := by
  have HL := Lib.hid h
  have hml : (L.length : Int) < 64 := by omega
  have hmz : ((most : Int) == 0) = false := by rw [beq_eq_false_iff_ne]; omega
  have HM := Lib.hid hl
  clear hl
  go_enter Try.func7, Try.ntmps7
  go_wp2_with fail
  (with_reducible refine (most_any _ b v L most HL.out).mono ?_)
  rintro e w1 ⟨rfl, rfl⟩
  obtain ⟨p, c, d, e, c0, c1, c2, c3, c4, c5, cf⟩ := h.books
  have f2 := cf 2
  clear h c0 c1 c3 c4 c5 cf
  go_wp2_with fail
  have HB := HL.out.book 2 (by omega) (wrap64 (p + 1))
  have FB : Fr [b] w (w.setCell ⟨b, 2, none⟩ (.int .i64 (wrap64 (p + 1)))) := (Fr.refl _ _).setCell _ _ (.inl (by simp))
  (with_reducible refine (full_any _ b v L most HB).mono ?_)
  rintro e w2 ⟨rfl, fr2, h2⟩
  have FB2 := Lib.hid (FB.trans fr2 (by simp))
  rw [decide_eq_false (by have := HM.out; omega)]
  have hown := h2.2
  have hn := h2.notin
  have hN : ∀ v1 w3, Appended (w2.alloc (.cells #[.int .i64 x] 3)) 3 1 v (L.length + 1) (ints L ++ [.int .i64 x]) v1 w3 →
      (w3.cell? ⟨b, 0, none⟩ = some v ∧ w3.frozen? ⟨b, 0, none⟩ = false) ∧ PutPost w b v L most x (.returned (.bool true)) (w3.setCell ⟨b, 0, none⟩ v1) := by
    intro v1 w3 hp
    obtain ⟨⟨p, c, d, e, k1⟩, k2⟩ := h2
    have F := hp.fr
    have kb := F.blk (k1.alloc _) hn
    have hn1 : b ∉ v1.ownBlock.toList := own_notin hp.own kb (by decide)
    refine ⟨⟨kb.at 0 rfl, kb.free 0⟩, rfl, v1, ⟨⟨p, c, d, e, kb.set 0 v1⟩, ?_⟩, ?_, ?_⟩
    · have := own_fr hp.own ((Fr.refl [b] w3).setCell ⟨b, 0, none⟩ v1 (.inl (by simp))) (fun g hg hm => hn1 (by simp at hm; subst hm; simp [hg]))
      simpa [ints] using this
    · rcases hp.place with h | h
      · exact .inl h
      · exact .inr ⟨_, h, by have := FB2.out.size; simp; omega⟩
    · have := (((FB2.out.mono (T := b :: v.ownBlock.toList) (by simp)).alloc (.cells #[.int .i64 x] 3)).trans F (fun k hk => .inl (by simp [hk])))
      exact this.setCell _ _ (.inl (by simp))
  have HN := Lib.hid hN
  obtain ⟨p2, c2', d2, e2, g0, g1, g2, g3, g4, g5, gf⟩ := h2.books
  have gf0 := gf 0
  clear hN hn HB FB fr2 h2 g1 g2 g3 g4 g5 gf
  go_wp2_with (at_builtin; go_must (refine wpList_app _ rfl _ _ 28 rfl 3 (.int .i64 0) 1 8 Try.underlying28 info3 rfl (by decide) v L.length (ints L) rfl (hown.alloc _) ⟨w2.heap.size, 0, none⟩ 1 1 [.int .i64 x] rfl rfl (new_one _ _ _ _ rfl) (by simp [Value.oneCell']) (by unfold maxLen; omega) (by omega) ?_); intro v1 w3 happ; obtain ⟨g1, cp1, rfl⟩ := own_succ happ.own; obtain ⟨⟨e1, e2⟩, e5⟩ := HN.out _ _ happ; have E5 := Lib.hid e5; clear e5)
  go_ret
  exact E5.out

/-- Nothing fits: it is lost. -/
def SamePost (w : World) (b : Nat) (v : Value) (L : List Int) (most : Nat) (r : Value) (e : Ending) (w' : World) : Prop :=
  e = .returned r ∧ LineAt w' b v L most ∧ Fr [b] w w'
set_option maxHeartbeats 1000000 in
theorem put_full (w : World) (b : Nat) (v : Value) (L : List Int) (most : Nat) (x : Int) (h : LineAt w b v L most) (h1 : 1 ≤ most) (hl : most ≤ L.length) :
    Calls Try.prog 7 #[.pointer (some ⟨b, 0, none⟩), .int .i64 x] w (SamePost w b v L most (.bool false)) := by
  have HL := Lib.hid h
  have hmz : ((most : Int) == 0) = false := by rw [beq_eq_false_iff_ne]; omega
  have HM := Lib.hid hl
  clear hl
  go_enter Try.func7, Try.ntmps7
  go_wp2_with fail
  (with_reducible refine (most_any _ b v L most HL.out).mono ?_)
  rintro e w1 ⟨rfl, rfl⟩
  obtain ⟨p, c, d, e, c0, c1, c2, c3, c4, c5, cf⟩ := h.books
  have f2 := cf 2
  clear h c0 c1 c3 c4 c5 cf
  go_wp2_with fail
  have HB := HL.out.book 2 (by omega) (wrap64 (p + 1))
  have FB : Fr [b] w (w.setCell ⟨b, 2, none⟩ (.int .i64 (wrap64 (p + 1)))) := (Fr.refl _ _).setCell _ _ (.inl (by simp))
  (with_reducible refine (full_any _ b v L most HB).mono ?_)
  rintro e w2 ⟨rfl, fr2, h2⟩
  have FB2 := Lib.hid (FB.trans fr2 (by simp))
  rw [decide_eq_true HM.out]
  have H2 := Lib.hid h2
  obtain ⟨p2, c2', d2, e2, g0, g1, g2, g3, g4, g5, gf⟩ := h2.books
  have gf4 := gf 4
  clear HB FB fr2 h2 g0 g1 g2 g3 g5 gf
  go_wp2
  go_ret
  exact ⟨rfl, H2.out.book 4 (by omega) _, FB2.out.setCell _ _ (.inl (by simp))⟩

/-- Which place a number names. -/
def place (i : Int) (n : Nat) : Nat := (i % (n : Int)).toNat
theorem place_lt (i : Int) {n : Nat} (h : 0 < n) : place i n < n := by unfold place; have := Int.emod_nonneg i (show (n : Int) ≠ 0 by omega); have := Int.emod_lt_of_pos i (show 0 < (n : Int) by omega); omega
theorem place_eq (i : Int) {n : Nat} (h : 0 < n) : (i.tmod n + n) % (n : Int) = (place i n : Int) := by
  unfold place
  have h1 := Int.emod_nonneg i (show (n : Int) ≠ 0 by omega)
  rw [Int.add_emod_right, Int.tmod_eq_emod]
  rw [Int.toNat_of_nonneg h1]
  split
  · simp
  · rw [Int.natAbs_natCast, Int.sub_emod, Int.emod_self]
    simp
theorem named_any (w : World) (b : Nat) (v : Value) (L : List Int) (most : Nat) (i : Int) (h : LineAt w b v L most) (hl : 0 < L.length) (h64 : L.length ≤ 64) :
    Calls Try.prog 26 #[.pointer (some ⟨b, 0, none⟩), .int .i64 i] w fun e w' => e = .returned (.tuple #[.int .i64 (place i L.length), .bool true]) ∧ w = w' := by
  have HL := Lib.hid h
  obtain ⟨_, cc, _, hc, hm, _⟩ := h.form
  unfold maxLen at hm
  have hml : (L.length : Int) ≤ 64 := by omega
  have hmz : ((L.length : Int) == 0) = false := by rw [beq_eq_false_iff_ne]; omega
  have t1 : -(L.length : Int) < i.tmod L.length := by
    have := Int.tmod_lt_of_pos (-i) (show 0 < (L.length : Int) by omega)
    rw [Int.neg_tmod] at this; omega
  have t2 : i.tmod L.length < (L.length : Int) := Int.tmod_lt_of_pos i (by omega)
  have HP := Lib.hid (place_eq i hl)
  clear h hc hm
  generalize hn : L.length = n at *
  go_enter Try.func26, Try.ntmps26
  go_wp2_with fail
  (with_reducible refine (len_any _ b v L most HL.out).mono ?_)
  rintro e w1 ⟨rfl, rfl⟩
  rw [hn]
  clear hn
  go_wp2
  go_ret2
  exact ⟨ret_pair HP.out rfl, rfl⟩

end Go.Proofs.Ytobagienhaaceaa
