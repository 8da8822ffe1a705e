/-
  A line of numbers: what it holds, its books; its methods by contracts. Printed by genLine.py.
-/
import Derived.Test.YtiimmndhinoaiaaDoorBks
namespace Go.Proofs.YtiimmndhinoaiaaDoor
open Go.RowKit Go.Shelf
set_option linter.unusedVariables false
namespace LnI
attribute [local go_sem] Oper.semAt_some



theorem region_tail {P : Program} {id : Nat} {Q : Exit → Act → World → Prop} {a : Act} {w : World} {l : List Oper} (n : Nat) (hm : P.follows .mixedOrders = true) (hB : Region.lexTailB .any l.toArray n = true)
    (h : wpStill P l.toArray w.drew (fun a' => wpList P l.toArray Q (l.drop n) a' w.drew) (l.take n) a) : (Code.region id l.toArray true).wp P Q a w :=
  wp_region_still_tail n hm hB h
theorem info3 : (Tryd.prog.info? 3).map (fun i => (i.zero, i.size, i.bytes)) = some (some (.int .i64 0), 1, 8) := by kernel_rfl
theorem ret_pair {a b : Int} {c d : Bool} (h : a = b) (h2 : c = d) : Ending.returned (.tuple #[.int .i64 a, .bool c]) = .returned (.tuple #[.int .i64 b, .bool d]) := by rw [h, h2]

/-- The line at b: its row v holds L; room for most; some books. -/
def LineAt (W : World) (b : Nat) (v : Value) (L : List Int) (most : Nat) (B : Bk) : Prop :=
  Blk W b #[v, .int .i64 most, .int .i64 B.p, .int .i64 B.c, .int .i64 B.d, .int .i64 B.e] 116 ∧ W.ownsRow 0 3 1 v L.length (ints L)
/-- The row lies where it lay, or in new memory. -/
def Moved (w : World) (v v' : Value) : Prop := v'.ownBlock = v.ownBlock ∨ ∃ g, v'.ownBlock = some g ∧ w.heap.size ≤ g
theorem Moved.refl (w : World) (v : Value) : Moved w v v := .inl rfl
theorem LineAt.form {W : World} {b : Nat} {v : Value} {L : List Int} {most : Nat} {B : Bk} (h : LineAt W b v L most B) : ∃ p c, v = .slice p L.length c ∧ L.length ≤ c ∧ c ≤ maxLen ∧ (p = none → L.length = 0) := by
  rcases h.2.2 with ⟨h1, h2⟩ | ⟨g, cap, cur, h1, _, _, h4, h5, _⟩
  · exact ⟨none, 0, by rw [h1, h2], by omega, by unfold maxLen; omega, fun _ => h2⟩
  · exact ⟨_, cap, h1, h4, h5, fun h => by cases h⟩
theorem LineAt.fr {S : List Nat} {W W' : World} {b : Nat} {v : Value} {L : List Int} {most : Nat} {B : Bk} (h : LineAt W b v L most B) (f : Fr S W W') (hb : b ∉ S) (hv : ∀ g, v.ownBlock = some g → g ∉ S) : LineAt W' b v L most B := by
  obtain ⟨h1, h2⟩ := h
  exact ⟨f.blk h1 hb, own_fr h2 f hv⟩
theorem LineAt.lt {W : World} {b : Nat} {v : Value} {L : List Int} {most : Nat} {B : Bk} (h : LineAt W b v L most B) : b < W.heap.size := by
  obtain ⟨h1, h2⟩ := h
  exact h1.lt
theorem LineAt.drewN {W : World} {b : Nat} {v : Value} {L : List Int} {most : Nat} {B : Bk} (h : LineAt W b v L most B) (n : Nat) : LineAt (W.drewN n) b v L most B := h

/-- What New answers. -/
theorem new_ok (w : World) (most : Nat) (h1 : 1 ≤ most) (h2 : most ≤ 64) : Calls Tryd.prog 27 #[.int .i64 most] w fun e w' =>
    e = .returned (.tuple #[.pointer (some ⟨w.heap.size, 0, none⟩), .int .i64 0]) ∧ LineAt w' w.heap.size (.slice none 0 0) [] most ⟨0, 0, 0, 0⟩ ∧ Fr [] w w' := by
  go_enter Tryd.func27, Tryd.ntmps27
  go_wp2
  go_ret2
  exact ⟨rfl, ⟨Blk.new _ _ _, World.ownsRow_nil _ _ _ _⟩, (Fr.refl _ _).alloc _⟩
theorem new_no (w : World) (most : Int) (h : most < 1 ∨ 64 < most) : Calls Tryd.prog 27 #[.int .i64 most] w fun e w' => e = .returned (.tuple #[.pointer none, .int .i64 2]) ∧ w = w' := by
  rcases h with h | h
  · go_enter Tryd.func27, Tryd.ntmps27
    go_wp2
    go_ret2
    exact ⟨rfl, rfl⟩
  · have : ¬ most < 1 := by omega
    go_enter Tryd.func27, Tryd.ntmps27
    go_wp2
    go_ret2
    exact ⟨rfl, rfl⟩
theorem len_any (w : World) (b : Nat) (v : Value) (L : List Int) (most : Nat) (B : Bk) (h : LineAt w b v L most B) : Calls Tryd.prog 30 #[.pointer (some ⟨b, 0, none⟩)] w fun e w' => e = .returned (.int .i64 L.length) ∧ w = w' := by
  obtain ⟨p', c', rfl, hc, hm, hn⟩ := h.form
  obtain ⟨h1, h2⟩ := h
  have c0 := h1.at 0 rfl
  clear h1 h2 hn
  go_enter Tryd.func30, Tryd.ntmps30
  go_wp2
  go_ret
  exact ⟨rfl, rfl⟩
theorem most_any (w : World) (b : Nat) (v : Value) (L : List Int) (most : Nat) (B : Bk) (h : LineAt w b v L most B) : Calls Tryd.prog 79 #[.pointer (some ⟨b, 0, none⟩)] w fun e w' => e = .returned (.int .i64 most) ∧ w = w' := by
  obtain ⟨h1, h2⟩ := h
  have c1 := h1.at 1 (v := .int .i64 most) rfl
  clear h1 h2
  go_enter Tryd.func79, Tryd.ntmps79
  go_wp2
  go_ret
  exact ⟨rfl, rfl⟩
theorem full_any (w : World) (b : Nat) (v : Value) (L : List Int) (most : Nat) (B : Bk) (h : LineAt w b v L most B) : Calls Tryd.prog 80 #[.pointer (some ⟨b, 0, none⟩)] w fun e w' => e = .returned (.bool (decide (most ≤ L.length))) ∧ Fr [] w w' ∧ LineAt w' b v L most B := by
  have HL := Lib.hid h
  obtain ⟨p', c', rfl, hc, hm, hn⟩ := h.form
  obtain ⟨h1, h2⟩ := h
  have c0 := h1.at 0 rfl
  have c1 := h1.at 1 (v := .int .i64 most) rfl
  clear h1 h2 hn
  by_cases hl : most ≤ L.length
  · have hd : decide ((most : Int) ≤ (L.length : Int)) = true := by simp; omega
    have HD := Lib.hid (show decide (most ≤ L.length) = true by simp; omega)
    go_enter Tryd.func80, Tryd.ntmps80
    go_wp2
    go_quiet (fail)
    go_wp2
    go_ret
    exact ⟨ret_bool HD.out.symm, (Fr.refl _ _).drewN _, HL.out.drewN _⟩
  · have hd : decide ((most : Int) ≤ (L.length : Int)) = false := by simp; omega
    have HD := Lib.hid (show decide (most ≤ L.length) = false by simp; omega)
    go_enter Tryd.func80, Tryd.ntmps80
    go_wp2
    go_quiet (fail)
    go_wp2
    go_ret
    exact ⟨ret_bool HD.out.symm, (Fr.refl _ _).drewN _, HL.out.drewN _⟩



/-- A book is written. -/
theorem LineAt.book {W : World} {b : Nat} {v : Value} {L : List Int} {most : Nat} {B : Bk} (h : LineAt W b v L most B) (i : Nat) (hi : 2 ≤ i ∧ i ≤ 5) (x : Int) : LineAt (W.setCell ⟨b, i, none⟩ (.int .i64 x)) b v L most (B.set i x) := by
  obtain ⟨h1, h2⟩ := h
  have hn := own_notin h2 h1 (by decide)
  refine ⟨?_, own_fr h2 ((Fr.refl [b] W).setCell _ _ (.inl (by simp))) (fun g hg hm => hn (by simp at hm; subst hm; simp [hg]))⟩
  have hs := h1.set i (.int .i64 x)
  rcases (show i = 2 ∨ i = 3 ∨ i = 4 ∨ i = 5 by omega) with rfl | rfl | rfl | rfl <;> exact hs
theorem LineAt.books {W : World} {b : Nat} {v : Value} {L : List Int} {most : Nat} {B : Bk} (h : LineAt W b v L most B) :
    W.cell? ⟨b, 0, none⟩ = some v ∧ W.cell? ⟨b, 1, none⟩ = some (.int .i64 most) ∧ W.cell? ⟨b, 2, none⟩ = some (.int .i64 B.p) ∧ W.cell? ⟨b, 3, none⟩ = some (.int .i64 B.c) ∧ W.cell? ⟨b, 4, none⟩ = some (.int .i64 B.d) ∧ W.cell? ⟨b, 5, none⟩ = some (.int .i64 B.e) ∧
      (∀ i, W.frozen? ⟨b, i, none⟩ = false) := by
  obtain ⟨h1, h2⟩ := h
  exact ⟨h1.at 0 rfl, h1.at 1 rfl, h1.at 2 rfl, h1.at 3 rfl, h1.at 4 rfl, h1.at 5 rfl, fun i => h1.free i⟩
theorem LineAt.notin {W : World} {b : Nat} {v : Value} {L : List Int} {most : Nat} {B : Bk} (h : LineAt W b v L most B) : b ∉ v.ownBlock.toList := by
  obtain ⟨h1, h2⟩ := h
  exact own_notin h2 h1 (by decide)

/-- What Put leaves. -/
def PutPost (w : World) (b : Nat) (v : Value) (L : List Int) (most : Nat) (B : Bk) (x : Int) (e : Ending) (w' : World) : Prop :=
  e = .returned (.bool true) ∧ ∃ v', LineAt w' b v' (L ++ [x]) most B ∧ Moved w v v' ∧ Fr (b :: v.ownBlock.toList) w w'

set_option maxHeartbeats 1000000 in
theorem put_ok (w : World) (b : Nat) (v : Value) (L : List Int) (most : Nat) (B : Bk) (x : Int) (h : LineAt w b v L most B) (hm : most ≤ 64) (hl : L.length < most) :
    Calls Tryd.prog 28 #[.pointer (some ⟨b, 0, none⟩), .int .i64 x] w (PutPost w b v L most (B.set 2 (wrap64 (B.p + 1))) x) := by
  have HL := Lib.hid h
  have hml : (L.length : Int) < 64 := by omega
  have hmz : ((most : Int) == 0) = false := by rw [beq_eq_false_iff_ne]; omega
  have HM := Lib.hid hl
  clear hl
  go_enter Tryd.func28, Tryd.ntmps28
  go_wp2_with fail
  (with_reducible refine (most_any _ b v L most B HL.out).mono ?_)
  rintro e w1 ⟨rfl, rfl⟩
  obtain ⟨c0, c1, c2, c3, c4, c5, cf⟩ := h.books
  have f2 := cf 2
  clear h c0 c1 c3 c4 c5 cf
  go_wp2_with fail
  have HB := HL.out.book 2 (by omega) (wrap64 (B.p + 1))
  have FB : Fr [b] w (w.setCell ⟨b, 2, none⟩ (.int .i64 (wrap64 (B.p + 1)))) := (Fr.refl _ _).setCell _ _ (.inl (by simp))
  (with_reducible refine (full_any _ b v L most _ HB).mono ?_)
  rintro e w2 ⟨rfl, fr2, h2⟩
  have FB2 := Lib.hid (FB.trans fr2 (by simp))
  rw [decide_eq_false (by have := HM.out; omega)]
  have hown := h2.2
  have hn := h2.notin
  have hN : ∀ v1 w3, Appended (w2.alloc (.cells #[.int .i64 x] 3)) 3 1 v (L.length + 1) (ints L ++ [.int .i64 x]) v1 w3 →
      (w3.cell? ⟨b, 0, none⟩ = some v ∧ w3.frozen? ⟨b, 0, none⟩ = false) ∧ PutPost w b v L most (B.set 2 (wrap64 (B.p + 1))) x (.returned (.bool true)) (w3.setCell ⟨b, 0, none⟩ v1) := by
    intro v1 w3 hp
    obtain ⟨k1, k2⟩ := h2
    have F := hp.fr
    have kb := F.blk (k1.alloc _) hn
    have hn1 : b ∉ v1.ownBlock.toList := own_notin hp.own kb (by decide)
    refine ⟨⟨kb.at 0 rfl, kb.free 0⟩, rfl, v1, ⟨kb.set 0 v1, ?_⟩, ?_, ?_⟩
    · have := own_fr hp.own ((Fr.refl [b] w3).setCell ⟨b, 0, none⟩ v1 (.inl (by simp))) (fun g hg hm => hn1 (by simp at hm; subst hm; simp [hg]))
      simpa [ints] using this
    · rcases hp.place with h | h
      · exact .inl h
      · exact .inr ⟨_, h, by have := FB2.out.size; simp; omega⟩
    · have := (((FB2.out.mono (T := b :: v.ownBlock.toList) (by simp)).alloc (.cells #[.int .i64 x] 3)).trans F (fun k hk => .inl (by simp [hk])))
      exact this.setCell _ _ (.inl (by simp))
  have HN := Lib.hid hN
  obtain ⟨g0, g1, g2, g3, g4, g5, gf⟩ := h2.books
  have gf0 := gf 0
  clear hN hn HB FB fr2 h2 g1 g2 g3 g4 g5 gf
  go_wp2_with (at_builtin; go_must (refine wpList_app _ rfl _ _ 22 rfl 3 (.int .i64 0) 1 8 Tryd.underlying22 info3 rfl (by decide) v L.length (ints L) rfl (hown.alloc _) ⟨w2.heap.size, 0, none⟩ 1 1 [.int .i64 x] rfl rfl (new_one _ _ _ _ rfl) (by simp [Value.oneCell']) (by unfold maxLen; omega) (by omega) ?_); intro v1 w3 happ; obtain ⟨g1, cp1, rfl⟩ := own_succ happ.own; obtain ⟨⟨e1, e2⟩, e5⟩ := HN.out _ _ happ; have E5 := Lib.hid e5; clear e5)
  go_ret
  exact E5.out

/-- Nothing fits: it is lost. -/
def SamePost (w : World) (b : Nat) (v : Value) (L : List Int) (most : Nat) (B : Bk) (r : Value) (e : Ending) (w' : World) : Prop :=
  e = .returned r ∧ LineAt w' b v L most B ∧ Fr [b] w w'
set_option maxHeartbeats 1000000 in
theorem put_full (w : World) (b : Nat) (v : Value) (L : List Int) (most : Nat) (B : Bk) (x : Int) (h : LineAt w b v L most B) (h1 : 1 ≤ most) (hl : most ≤ L.length) :
    Calls Tryd.prog 28 #[.pointer (some ⟨b, 0, none⟩), .int .i64 x] w (SamePost w b v L most ((B.set 2 (wrap64 (B.p + 1))).set 4 (wrap64 (B.d + 1))) (.bool false)) := by
  have HL := Lib.hid h
  have hmz : ((most : Int) == 0) = false := by rw [beq_eq_false_iff_ne]; omega
  have HM := Lib.hid hl
  clear hl
  go_enter Tryd.func28, Tryd.ntmps28
  go_wp2_with fail
  (with_reducible refine (most_any _ b v L most B HL.out).mono ?_)
  rintro e w1 ⟨rfl, rfl⟩
  obtain ⟨c0, c1, c2, c3, c4, c5, cf⟩ := h.books
  have f2 := cf 2
  clear h c0 c1 c3 c4 c5 cf
  go_wp2_with fail
  have HB := HL.out.book 2 (by omega) (wrap64 (B.p + 1))
  have FB : Fr [b] w (w.setCell ⟨b, 2, none⟩ (.int .i64 (wrap64 (B.p + 1)))) := (Fr.refl _ _).setCell _ _ (.inl (by simp))
  (with_reducible refine (full_any _ b v L most _ HB).mono ?_)
  rintro e w2 ⟨rfl, fr2, h2⟩
  have FB2 := Lib.hid (FB.trans fr2 (by simp))
  rw [decide_eq_true HM.out]
  have H2 := Lib.hid h2
  obtain ⟨g0, g1, g2, g3, g4, g5, gf⟩ := h2.books
  have gf4 := gf 4
  clear HB FB fr2 h2 g0 g1 g2 g3 g5 gf
  go_wp2
  go_ret
  exact ⟨rfl, H2.out.book 4 (by omega) _, FB2.out.setCell _ _ (.inl (by simp))⟩

/-- Which place a number names. -/
def place (i : Int) (n : Nat) : Nat := (i % (n : Int)).toNat
theorem place_lt (i : Int) {n : Nat} (h : 0 < n) : place i n < n := by unfold place; have := Int.emod_nonneg i (show (n : Int) ≠ 0 by omega); have := Int.emod_lt_of_pos i (show 0 < (n : Int) by omega); omega
theorem place_eq (i : Int) {n : Nat} (h : 0 < n) : (i.tmod n + n) % (n : Int) = (place i n : Int) := by
  unfold place
  have h1 := Int.emod_nonneg i (show (n : Int) ≠ 0 by omega)
  rw [Int.add_emod_right, Int.tmod_eq_emod]
  rw [Int.toNat_of_nonneg h1]
  split
  · simp
  · rw [Int.natAbs_natCast, Int.sub_emod, Int.emod_self]
    simp
theorem named_any (w : World) (b : Nat) (v : Value) (L : List Int) (most : Nat) (B : Bk) (i : Int) (h : LineAt w b v L most B) (hl : 0 < L.length) (h64 : L.length ≤ 64) :
    Calls Tryd.prog 100 #[.pointer (some ⟨b, 0, none⟩), .int .i64 i] w fun e w' => e = .returned (.tuple #[.int .i64 (place i L.length), .bool true]) ∧ w = w' := by
  have HL := Lib.hid h
  obtain ⟨_, cc, _, hc, hm, _⟩ := h.form
  unfold maxLen at hm
  have hml : (L.length : Int) ≤ 64 := by omega
  have hmz : ((L.length : Int) == 0) = false := by rw [beq_eq_false_iff_ne]; omega
  have t1 : -(L.length : Int) < i.tmod L.length := by
    have := Int.tmod_lt_of_pos (-i) (show 0 < (L.length : Int) by omega)
    rw [Int.neg_tmod] at this; omega
  have t2 : i.tmod L.length < (L.length : Int) := Int.tmod_lt_of_pos i (by omega)
  have HP := Lib.hid (place_eq i hl)
  clear h hc hm
  generalize hn : L.length = n at *
  go_enter Tryd.func100, Tryd.ntmps100
  go_wp2_with fail
  (with_reducible refine (len_any _ b v L most B HL.out).mono ?_)
  rintro e w1 ⟨rfl, rfl⟩
  rw [hn]
  clear hn
  go_wp2
  go_ret2
  exact ⟨ret_pair HP.out rfl, rfl⟩



theorem wpList_cps {P : Program} {w : World} {ops : Array Oper} {rest : List Oper} {o : Oper} {a : Act} {Q : Exit → Act → World → Prop} (hgd : o.guard = none) (d s : Operand) (dT sT : TypeId)
    (ho : o.op = .call { callee := .builtin .copy, args := #[d, s], argTypes := #[dT, sT] }) (elem : TypeId) (hu : P.underlying dT = some (.slice elem)) (hsz : (P.info? elem).map (·.size) = some 1)
    (dp sp : Option Addr) (dLen dCap sLen sCap : Nat) (hd : a.eval d = .slice dp dLen dCap) (hs : a.eval s = .slice sp sLen sCap)
    (g off : Nat) (cur : List Value) (t : TypeId) (hg : Blk w g cur.toArray t) (cs : List Value) (hn : cs.length = Nat.min sLen dLen)
    (hpos : 0 < cs.length → dp = some ⟨g, off, none⟩ ∧ ∃ ad, sp = some ad ∧ ∀ j v, cs[j]? = some v → w.cell? (ad.add j) = some v)
    (hfit : off + cs.length ≤ cur.length) (h1 : ∀ v ∈ cs, v.oneCell' = true)
    (h : ∀ w', Blk w' g (splice cur off cs).toArray t → Fr [g] w w' → w'.heap.size = w.heap.size → wpList P ops Q rest (a.put o.dst (goInt cs.length)) w') :
    wpList P ops Q (o :: rest) a w := by
  by_cases h0 : cs.length = 0
  · obtain rfl : cs = [] := List.eq_nil_of_length_eq_zero h0
    refine wpList_copy_nothing hgd d s dT sT ho elem hu hsz dp sp dLen dCap sLen sCap hd hs (by simpa using hn.symm) ?_
    exact h w (by simpa [splice] using hg) (Fr.refl _ _) rfl
  · obtain ⟨rfl, ad, rfl, hsrc⟩ := hpos (by omega)
    refine wpList_copy_own hgd d s dT sT ho elem hu hsz g off dLen dCap ad sLen sCap hd hs cur.toArray t hg cs hn hsrc (by simpa using hfit) h1 ?_
    refine h _ ?_ ((Fr.refl [g] w).setRow g _ (.inl (by simp))) (by simp [World.setRow])
    have := setRow_heap w g cur.toArray ((cur.toArray.toList.take off ++ cs ++ cur.toArray.toList.drop (off + cs.length)).toArray) t (0, 0) hg
    simpa [splice, Blk] using this

theorem cut_row {C : List Value} {L : List Int} {k n : Nat} (hn : L.length = n) (hk : k < n) (hC : C.take n = ints L) (x : Value) :
    ((splice C k (ints (L.drop (k + 1)))).set (n - 1) x).take (n - 1) = ints (L.eraseIdx k) := by
  have hcs : (ints (L.drop (k + 1))).length = n - 1 - k := by rw [ints_len, List.length_drop]; omega
  have hA : C.take k = ints (L.take k) := by
    have : (C.take n).take k = C.take k := by rw [List.take_take, Nat.min_eq_left (by omega)]
    rw [← this, hC, ints, ints, List.map_take]
  have hlen : (ints (L.take k)).length = k := by rw [ints_len, List.length_take]; omega
  rw [List.take_set_of_le (Nat.le_refl _), splice, hA, ← List.append_assoc, List.take_append_of_le_length (by rw [List.length_append, hlen, hcs]; omega), List.take_of_length_le (by rw [List.length_append, hlen, hcs]; omega), List.eraseIdx_eq_take_drop_succ]
  simp [ints]

/-- What cut leaves. -/
def CutPost (w : World) (b : Nat) (v : Value) (L : List Int) (most : Nat) (B : Bk) (k : Nat) (e : Ending) (w' : World) : Prop :=
  e = .returned (.tuple #[.int .i64 (L.getD k 0), .bool true]) ∧ ∃ v', LineAt w' b v' (L.eraseIdx k) most B ∧ v'.ownBlock = v.ownBlock ∧ Fr (b :: v.ownBlock.toList) w w'

set_option maxRecDepth 100000 in
set_option maxHeartbeats 1000000 in
theorem cut_ok (w : World) (b : Nat) (v : Value) (L : List Int) (most : Nat) (B : Bk) (i : Int) (h : LineAt w b v L most B) (hl : 0 < L.length) (h64 : L.length ≤ 64) :
    Calls Tryd.prog 81 #[.pointer (some ⟨b, 0, none⟩), .int .i64 i] w (CutPost w b v L most B (place i L.length)) := by
  have HL := Lib.hid h
  have hlt := place_lt i hl
  have HN := Lib.hid (named_any w b v L most B i h hl h64)
  generalize place i L.length = k at *
  obtain ⟨h1, h2⟩ := h
  rcases h2.2 with ⟨_, h0⟩ | ⟨g, cap, cur, rfl, _, hg, hnc, hcm, hcs, htk⟩
  · omega
  unfold maxLen at hcm
  generalize hn : L.length = n at *
  have c0 := h1.at 0 rfl
  have f0 := h1.free 0
  have hbg : b ≠ g := Blk.ne h1 (show Blk w g cur 3 from hg) (by decide)
  have hkL : k < L.length := by omega
  obtain ⟨x, hx⟩ : ∃ x, L.getD k 0 = x := ⟨_, rfl⟩
  have cg : w.cell? ⟨g, k, none⟩ = some (.int .i64 x) := by
    have := h2.cells (g := g) rfl k (.int .i64 (L.getD k 0)) (by simp [ints, List.getD_eq_getElem?_getD, hkL])
    rw [Addr.add_lit, hx] at this
    simpa using this
  have k1 : (0 : Int) ≤ (k : Int) := by omega
  have k2 : (k : Int) < (n : Int) := by omega
  have k3 : (n : Int) ≤ (cap : Int) := by omega
  have k4 : k ≤ n := by omega
  have k5 : k + 1 ≤ n := by omega
  have k6 : ¬ cap = k := by omega
  have k7 : IntKind.i64.wrap ((k : Int) + 1) = (k : Int) + 1 := by rw [IntKind.wrap_i64]; omega
  have k8 : (0 : Int) ≤ (k : Int) + 1 := by omega
  have k9 : (k : Int) + 1 ≤ (n : Int) := by omega
  have k10 : ((k : Int) + 1).toNat = k + 1 := by omega
  have HG := Lib.hid (And.intro hg (And.intro hcs (And.intro htk (And.intro hn (And.intro h1 hx)))))
  clear hg hcs htk hn hl h1 h2 HL hx hkL
  go_enter Tryd.func81, Tryd.ntmps81
  go_wp2_with fail
  (with_reducible refine HN.out.mono ?_)
  rintro e w1 ⟨rfl, rfl⟩
  go_wp2_with fail
  refine region_tail 13 (by kernel_rfl) (by kernel_rfl) ?_
  simp only [List.take_succ_cons, List.take_zero, List.drop_succ_cons, List.drop_zero]
  iterate 13 still_step
  refine wpStill_nil ?_
  obtain ⟨hg, hcs, htk, hn, hb0, hx⟩ := HG.out
  have hcl : cur.toList.length = cap := by simp [hcs]
  have hsrc : ∀ j u, (ints (L.drop (k + 1)))[j]? = some u → w.drew.cell? ((⟨g, k + 1, none⟩ : Addr).add j) = some u := by
    intro j u hu
    rw [Addr.add_lit]
    have h1 : (ints L)[k + 1 + j]? = some u := by
      rw [ints, List.getElem?_map] at hu ⊢
      rwa [List.getElem?_drop] at hu
    have h2 : cur.toList[k + 1 + j]? = some u := by
      rw [← htk, List.getElem?_take] at h1
      split at h1
      · exact h1
      · cases h1
    exact Blk.at (w := w.drew) (show Blk w.drew g cur 3 from hg) _ (by simpa using h2)
  refine wpList_cps rfl (.tmp 38) (.tmp 45) 22 22 rfl 3 Tryd.underlying22 (by kernel_rfl) (some ⟨g, k, none⟩) (if cap = k + 1 then some ⟨g, 0, none⟩ else some ⟨g, k + 1, none⟩) (n - k) (cap - k) (n - (k + 1)) (cap - (k + 1)) rfl rfl g k cur.toList 3 (show Blk w g cur.toList.toArray 3 by simpa [Blk] using hg).drew (ints (L.drop (k + 1))) (by rw [ints_len, List.length_drop]; show L.length - (k + 1) = min (n - (k + 1)) (n - k); omega)
    (fun h0 => ⟨rfl, ⟨g, k + 1, none⟩, by rw [if_neg]; rw [ints_len, List.length_drop] at h0; omega, hsrc⟩) (by rw [ints_len, List.length_drop]; omega) (ints_one _) ?_
  intro w2 hg2 f2 hs2
  have hb2 := f2.blk (Blk.drew hb0) (by simpa using hbg)
  have c0 := hb2.at 0 rfl
  have f0 := hb2.free 0
  have hx1 : ∃ y, w2.cell? ⟨g, n - 1, none⟩ = some y := by
    have hlt : n - 1 < (splice cur.toList k (ints (L.drop (k + 1)))).length := by
      rw [length_splice _ _ _ (by rw [ints_len, List.length_drop]; omega)]; omega
    exact ⟨_, hg2.at (n - 1) (v := (splice cur.toList k (ints (L.drop (k + 1))))[n - 1]) (by simp [hlt])⟩
  obtain ⟨y, cy⟩ := hx1
  have fy := hg2.free (n - 1)
  have hrow := cut_row hn (show k < n by omega) (by simpa using htk) (.int .i64 0)
  have hfin : ∀ cp, cap = cp → CutPost w b (.slice (some ⟨g, 0, none⟩) n cap) L most B k (.returned (.tuple #[.int .i64 x, .bool true])) ((w2.setCell ⟨g, n - 1, none⟩ (.int .i64 0)).setCell ⟨b, 0, none⟩ (.slice (some ⟨g, 0, none⟩) (n - 1) cp)) := by
    rintro cp rfl
    have hel : (L.eraseIdx k).length = n - 1 := by rw [List.length_eraseIdx, if_pos (by omega), hn]
    have hg3 := (hg2.set (n - 1) (.int .i64 0)).other ⟨b, 0, none⟩ (.slice (some ⟨g, 0, none⟩) (n - 1) cap) (Ne.symm hbg)
    refine ⟨by rw [hx], _, ⟨(hb2.other _ _ hbg).set 0 _, ⟨by rw [ints_len, hel]; simp, .inr ⟨g, cap, _, by rw [hel], Nat.zero_le _, hg3, by omega, hcm, ?_, ?_⟩⟩⟩, rfl, ?_⟩
    · have := length_splice cur.toList k (ints (L.drop (k + 1))) (by rw [ints_len, List.length_drop]; omega)
      simp only [Array.size_setIfInBounds, List.size_toArray]
      omega
    · rw [hel, Nat.mul_one, ← hrow]
      simp
    · have hS : ∀ x, x ∈ [g] → x ∈ b :: (Value.slice (some ⟨g, 0, none⟩) n cap).ownBlock.toList := by intro x hx; simp at hx; subst hx; simp [Value.ownBlock]
      exact (((((Fr.refl _ w).drew).trans f2 (fun x hx => .inl (hS x hx))).setCell _ _ (.inl (hS _ (by simp)))).setCell _ _ (.inl (by simp)))
  have HFIN := Lib.hid hfin
  have HX := Lib.hid hn
  have m1 : ((n : Int) - 1).toNat = n - 1 := by omega
  have m2 : (0 : Int) ≤ (n : Int) - 1 := by omega
  have m3 : (n : Int) - 1 < (n : Int) := by omega
  clear hg hcs htk hn hb0 hcl hsrc hg2 f2 hs2 hb2 hrow hx cg k7 k8 k9 k10 hfin
  go_wp2_with fail
  all_goals
    go_ret2
    first | exact HFIN.out _ rfl | exact HFIN.out _ (by assumption)

theorem len_zero (w : World) (b : Nat) (v : Value) (most : Nat) (B : Bk) (h : LineAt w b v [] most B) : Calls Tryd.prog 30 #[.pointer (some ⟨b, 0, none⟩)] w fun e w' => e = .returned (.int .i64 0) ∧ w = w' := len_any w b v [] most B h
theorem named_no (w : World) (b : Nat) (v : Value) (most : Nat) (B : Bk) (i : Int) (h : LineAt w b v [] most B) :
    Calls Tryd.prog 100 #[.pointer (some ⟨b, 0, none⟩), .int .i64 i] w fun e w' => e = .returned (.tuple #[.int .i64 0, .bool false]) ∧ w = w' := by
  have HL := Lib.hid (len_zero w b v most B h)
  clear h
  go_enter Tryd.func100, Tryd.ntmps100
  go_wp2_with (go_at_call 30; refine HL.out.mono ?_; rintro e w1 ⟨rfl, rfl⟩)
  go_ret2
  exact ⟨rfl, rfl⟩
theorem cut_no (w : World) (b : Nat) (v : Value) (most : Nat) (B : Bk) (i : Int) (h : LineAt w b v [] most B) :
    Calls Tryd.prog 81 #[.pointer (some ⟨b, 0, none⟩), .int .i64 i] w fun e w' => e = .returned (.tuple #[.int .i64 0, .bool false]) ∧ w = w' := by
  have HL := Lib.hid (named_no w b v most B i h)
  clear h
  go_enter Tryd.func81, Tryd.ntmps81
  go_wp2_with (go_at_call 100; refine HL.out.mono ?_; rintro e w1 ⟨rfl, rfl⟩)
  go_ret2
  exact ⟨rfl, rfl⟩

/-- What Take, what Lose leaves. -/
def TakePost (w : World) (b : Nat) (v : Value) (L : List Int) (most : Nat) (B : Bk) (k : Nat) (r : Value) (e : Ending) (w' : World) : Prop :=
  e = .returned r ∧ ∃ v', LineAt w' b v' (L.eraseIdx k) most B ∧ v'.ownBlock = v.ownBlock ∧ Fr (b :: v.ownBlock.toList) w w'
theorem take_ok (w : World) (b : Nat) (v : Value) (L : List Int) (most : Nat) (B : Bk) (i : Int) (h : LineAt w b v L most B) (hl : 0 < L.length) (h64 : L.length ≤ 64) :
    Calls Tryd.prog 29 #[.pointer (some ⟨b, 0, none⟩), .int .i64 i] w (TakePost w b v L most (B.set 3 (wrap64 (B.c + 1))) (place i L.length) (.tuple #[.int .i64 (L.getD (place i L.length) 0), .bool true])) := by
  have HC := Lib.hid (cut_ok w b v L most B i h hl h64)
  generalize place i L.length = k at *
  clear h hl h64
  unfold CutPost at HC
  obtain ⟨x, hx⟩ : ∃ x, L.getD k 0 = x := ⟨_, rfl⟩
  rw [hx] at HC ⊢
  clear hx
  go_enter Tryd.func29, Tryd.ntmps29
  go_wp2_with fail
  (with_reducible refine HC.out.mono ?_)
  rintro e w1 ⟨rfl, v', hl', ho, hf⟩
  obtain ⟨c0, c1, c2, c3, c4, c5, cf⟩ := hl'.books
  have f3 := cf 3
  have HH := Lib.hid (And.intro hl' (And.intro ho hf))
  clear hl' ho hf c0 c1 c2 c4 c5 cf
  go_wp2
  go_ret2
  exact ⟨rfl, v', HH.out.1.book 3 (by omega) _, HH.out.2.1, HH.out.2.2.setCell _ _ (.inl (by simp))⟩
theorem take_no (w : World) (b : Nat) (v : Value) (most : Nat) (B : Bk) (i : Int) (h : LineAt w b v [] most B) :
    Calls Tryd.prog 29 #[.pointer (some ⟨b, 0, none⟩), .int .i64 i] w fun e w' => e = .returned (.tuple #[.int .i64 0, .bool false]) ∧ w = w' := by
  have HL := Lib.hid (cut_no w b v most B i h)
  clear h
  go_enter Tryd.func29, Tryd.ntmps29
  go_wp2_with (go_at_call 81; refine HL.out.mono ?_; rintro e w1 ⟨rfl, rfl⟩)
  go_ret2
  exact ⟨rfl, rfl⟩

end LnI
end Go.Proofs.YtiimmndhinoaiaaDoor
