/-
  A line of texts: what it holds, its books; its methods by contracts. Printed by genLine.py.
-/
import Derived.Test.YtiimmndhinoaiaaDoorBks
namespace Go.Proofs.YtiimmndhinoaiaaDoor
open Go.RowKit Go.Shelf
set_option linter.unusedVariables false
namespace LnS
attribute [local go_sem] Oper.semAt_some



theorem region_tail {P : Program} {id : Nat} {Q : Exit → Act → World → Prop} {a : Act} {w : World} {l : List Oper} (n : Nat) (hm : P.follows .mixedOrders = true) (hB : Region.lexTailB .any l.toArray n = true)
    (h : wpStill P l.toArray w.drew (fun a' => wpList P l.toArray Q (l.drop n) a' w.drew) (l.take n) a) : (Code.region id l.toArray true).wp P Q a w :=
  wp_region_still_tail n hm hB h
theorem info3 : (Tryd.prog.info? 9).map (fun i => (i.zero, i.size, i.bytes)) = some (some (.string ⟨#[]⟩), 1, 16) := by kernel_rfl
theorem ret_pair {a b : Int} {c d : Bool} (h : a = b) (h2 : c = d) : Ending.returned (.tuple #[.int .i64 a, .bool c]) = .returned (.tuple #[.int .i64 b, .bool d]) := by rw [h, h2]

/-- The line at b: its row v holds L; room for most; some books. -/
def LineAt (W : World) (b : Nat) (v : Value) (L : List ByteArray) (most : Nat) (B : Bk) : Prop :=
  Blk W b #[v, .int .i64 most, .int .i64 B.p, .int .i64 B.c, .int .i64 B.d, .int .i64 B.e] 81 ∧ W.ownsRow 0 9 1 v L.length (strs L)
/-- The row lies where it lay, or in new memory. -/
def Moved (w : World) (v v' : Value) : Prop := v'.ownBlock = v.ownBlock ∨ ∃ g, v'.ownBlock = some g ∧ w.heap.size ≤ g
theorem Moved.refl (w : World) (v : Value) : Moved w v v := .inl rfl
theorem LineAt.form {W : World} {b : Nat} {v : Value} {L : List ByteArray} {most : Nat} {B : Bk} (h : LineAt W b v L most B) : ∃ p c, v = .slice p L.length c ∧ L.length ≤ c ∧ c ≤ maxLen ∧ (p = none → L.length = 0) := by
  rcases h.2.2 with ⟨h1, h2⟩ | ⟨g, cap, cur, h1, _, _, h4, h5, _⟩
  · exact ⟨none, 0, by rw [h1, h2], by omega, by unfold maxLen; omega, fun _ => h2⟩
  · exact ⟨_, cap, h1, h4, h5, fun h => by cases h⟩
theorem LineAt.fr {S : List Nat} {W W' : World} {b : Nat} {v : Value} {L : List ByteArray} {most : Nat} {B : Bk} (h : LineAt W b v L most B) (f : Fr S W W') (hb : b ∉ S) (hv : ∀ g, v.ownBlock = some g → g ∉ S) : LineAt W' b v L most B := by
  obtain ⟨h1, h2⟩ := h
  exact ⟨f.blk h1 hb, own_fr h2 f hv⟩
theorem LineAt.lt {W : World} {b : Nat} {v : Value} {L : List ByteArray} {most : Nat} {B : Bk} (h : LineAt W b v L most B) : b < W.heap.size := by
  obtain ⟨h1, h2⟩ := h
  exact h1.lt
theorem LineAt.drewN {W : World} {b : Nat} {v : Value} {L : List ByteArray} {most : Nat} {B : Bk} (h : LineAt W b v L most B) (n : Nat) : LineAt (W.drewN n) b v L most B := h

/-- What New answers. -/
theorem new_ok (w : World) (most : Nat) (h1 : 1 ≤ most) (h2 : most ≤ 64) : Calls Tryd.prog 8 #[.int .i64 most] w fun e w' =>
    e = .returned (.tuple #[.pointer (some ⟨w.heap.size, 0, none⟩), .int .i64 0]) ∧ LineAt w' w.heap.size (.slice none 0 0) [] most ⟨0, 0, 0, 0⟩ ∧ Fr [] w w' := by
  go_enter Tryd.func8, Tryd.ntmps8
  go_wp2
  go_ret2
  exact ⟨rfl, ⟨Blk.new _ _ _, World.ownsRow_nil _ _ _ _⟩, (Fr.refl _ _).alloc _⟩
theorem new_no (w : World) (most : Int) (h : most < 1 ∨ 64 < most) : Calls Tryd.prog 8 #[.int .i64 most] w fun e w' => e = .returned (.tuple #[.pointer none, .int .i64 2]) ∧ w = w' := by
  rcases h with h | h
  · go_enter Tryd.func8, Tryd.ntmps8
    go_wp2
    go_ret2
    exact ⟨rfl, rfl⟩
  · have : ¬ most < 1 := by omega
    go_enter Tryd.func8, Tryd.ntmps8
    go_wp2
    go_ret2
    exact ⟨rfl, rfl⟩
theorem len_any (w : World) (b : Nat) (v : Value) (L : List ByteArray) (most : Nat) (B : Bk) (h : LineAt w b v L most B) : Calls Tryd.prog 16 #[.pointer (some ⟨b, 0, none⟩)] w fun e w' => e = .returned (.int .i64 L.length) ∧ w = w' := by
  obtain ⟨p', c', rfl, hc, hm, hn⟩ := h.form
  obtain ⟨h1, h2⟩ := h
  have c0 := h1.at 0 rfl
  clear h1 h2 hn
  go_enter Tryd.func16, Tryd.ntmps16
  go_wp2
  go_ret
  exact ⟨rfl, rfl⟩
theorem most_any (w : World) (b : Nat) (v : Value) (L : List ByteArray) (most : Nat) (B : Bk) (h : LineAt w b v L most B) : Calls Tryd.prog 42 #[.pointer (some ⟨b, 0, none⟩)] w fun e w' => e = .returned (.int .i64 most) ∧ w = w' := by
  obtain ⟨h1, h2⟩ := h
  have c1 := h1.at 1 (v := .int .i64 most) rfl
  clear h1 h2
  go_enter Tryd.func42, Tryd.ntmps42
  go_wp2
  go_ret
  exact ⟨rfl, rfl⟩
theorem full_any (w : World) (b : Nat) (v : Value) (L : List ByteArray) (most : Nat) (B : Bk) (h : LineAt w b v L most B) : Calls Tryd.prog 83 #[.pointer (some ⟨b, 0, none⟩)] w fun e w' => e = .returned (.bool (decide (most ≤ L.length))) ∧ Fr [] w w' ∧ LineAt w' b v L most B := by
  have HL := Lib.hid h
  obtain ⟨p', c', rfl, hc, hm, hn⟩ := h.form
  obtain ⟨h1, h2⟩ := h
  have c0 := h1.at 0 rfl
  have c1 := h1.at 1 (v := .int .i64 most) rfl
  clear h1 h2 hn
  by_cases hl : most ≤ L.length
  · have hd : decide ((most : Int) ≤ (L.length : Int)) = true := by simp; omega
    have HD := Lib.hid (show decide (most ≤ L.length) = true by simp; omega)
    go_enter Tryd.func83, Tryd.ntmps83
    go_wp2
    go_quiet (fail)
    go_wp2
    go_ret
    exact ⟨ret_bool HD.out.symm, (Fr.refl _ _).drewN _, HL.out.drewN _⟩
  · have hd : decide ((most : Int) ≤ (L.length : Int)) = false := by simp; omega
    have HD := Lib.hid (show decide (most ≤ L.length) = false by simp; omega)
    go_enter Tryd.func83, Tryd.ntmps83
    go_wp2
    go_quiet (fail)
    go_wp2
    go_ret
    exact ⟨ret_bool HD.out.symm, (Fr.refl _ _).drewN _, HL.out.drewN _⟩



/-- A book is written. -/
theorem LineAt.book {W : World} {b : Nat} {v : Value} {L : List ByteArray} {most : Nat} {B : Bk} (h : LineAt W b v L most B) (i : Nat) (hi : 2 ≤ i ∧ i ≤ 5) (x : Int) : LineAt (W.setCell ⟨b, i, none⟩ (.int .i64 x)) b v L most (B.set i x) := by
  obtain ⟨h1, h2⟩ := h
  have hn := own_notin h2 h1 (by decide)
  refine ⟨?_, own_fr h2 ((Fr.refl [b] W).setCell _ _ (.inl (by simp))) (fun g hg hm => hn (by simp at hm; subst hm; simp [hg]))⟩
  have hs := h1.set i (.int .i64 x)
  rcases (show i = 2 ∨ i = 3 ∨ i = 4 ∨ i = 5 by omega) with rfl | rfl | rfl | rfl <;> exact hs
theorem LineAt.books {W : World} {b : Nat} {v : Value} {L : List ByteArray} {most : Nat} {B : Bk} (h : LineAt W b v L most B) :
    W.cell? ⟨b, 0, none⟩ = some v ∧ W.cell? ⟨b, 1, none⟩ = some (.int .i64 most) ∧ W.cell? ⟨b, 2, none⟩ = some (.int .i64 B.p) ∧ W.cell? ⟨b, 3, none⟩ = some (.int .i64 B.c) ∧ W.cell? ⟨b, 4, none⟩ = some (.int .i64 B.d) ∧ W.cell? ⟨b, 5, none⟩ = some (.int .i64 B.e) ∧
      (∀ i, W.frozen? ⟨b, i, none⟩ = false) := by
  obtain ⟨h1, h2⟩ := h
  exact ⟨h1.at 0 rfl, h1.at 1 rfl, h1.at 2 rfl, h1.at 3 rfl, h1.at 4 rfl, h1.at 5 rfl, fun i => h1.free i⟩
theorem LineAt.notin {W : World} {b : Nat} {v : Value} {L : List ByteArray} {most : Nat} {B : Bk} (h : LineAt W b v L most B) : b ∉ v.ownBlock.toList := by
  obtain ⟨h1, h2⟩ := h
  exact own_notin h2 h1 (by decide)

/-- What Put leaves. -/
def PutPost (w : World) (b : Nat) (v : Value) (L : List ByteArray) (most : Nat) (B : Bk) (x : ByteArray) (e : Ending) (w' : World) : Prop :=
  e = .returned (.bool true) ∧ ∃ v', LineAt w' b v' (L ++ [x]) most B ∧ Moved w v v' ∧ Fr (b :: v.ownBlock.toList) w w'

set_option maxHeartbeats 1000000 in
theorem put_ok (w : World) (b : Nat) (v : Value) (L : List ByteArray) (most : Nat) (B : Bk) (x : ByteArray) (h : LineAt w b v L most B) (hm : most ≤ 64) (hl : L.length < most) :
    Calls Tryd.prog 33 #[.pointer (some ⟨b, 0, none⟩), .string x] w (PutPost w b v L most (B.set 2 (wrap64 (B.p + 1))) x) := by
  have HL := Lib.hid h
  have hml : (L.length : Int) < 64 := by omega
  have hmz : ((most : Int) == 0) = false := by rw [beq_eq_false_iff_ne]; omega
  have HM := Lib.hid hl
  clear hl
  go_enter Tryd.func33, Tryd.ntmps33
  go_wp2_with fail
  (with_reducible refine (most_any _ b v L most B HL.out).mono ?_)
  rintro e w1 ⟨rfl, rfl⟩
  obtain ⟨c0, c1, c2, c3, c4, c5, cf⟩ := h.books
  have f2 := cf 2
  clear h c0 c1 c3 c4 c5 cf
  go_wp2_with fail
  have HB := HL.out.book 2 (by omega) (wrap64 (B.p + 1))
  have FB : Fr [b] w (w.setCell ⟨b, 2, none⟩ (.int .i64 (wrap64 (B.p + 1)))) := (Fr.refl _ _).setCell _ _ (.inl (by simp))
  (with_reducible refine (full_any _ b v L most _ HB).mono ?_)
  rintro e w2 ⟨rfl, fr2, h2⟩
  have FB2 := Lib.hid (FB.trans fr2 (by simp))
  rw [decide_eq_false (by have := HM.out; omega)]
  have hown := h2.2
  have hn := h2.notin
  have hN : ∀ v1 w3, Appended (w2.alloc (.cells #[.string x] 9)) 9 1 v (L.length + 1) (strs L ++ [.string x]) v1 w3 →
      (w3.cell? ⟨b, 0, none⟩ = some v ∧ w3.frozen? ⟨b, 0, none⟩ = false) ∧ PutPost w b v L most (B.set 2 (wrap64 (B.p + 1))) x (.returned (.bool true)) (w3.setCell ⟨b, 0, none⟩ v1) := by
    intro v1 w3 hp
    obtain ⟨k1, k2⟩ := h2
    have F := hp.fr
    have kb := F.blk (k1.alloc _) hn
    have hn1 : b ∉ v1.ownBlock.toList := own_notin hp.own kb (by decide)
    refine ⟨⟨kb.at 0 rfl, kb.free 0⟩, rfl, v1, ⟨kb.set 0 v1, ?_⟩, ?_, ?_⟩
    · have := own_fr hp.own ((Fr.refl [b] w3).setCell ⟨b, 0, none⟩ v1 (.inl (by simp))) (fun g hg hm => hn1 (by simp at hm; subst hm; simp [hg]))
      simpa [strs] using this
    · rcases hp.place with h | h
      · exact .inl h
      · exact .inr ⟨_, h, by have := FB2.out.size; simp; omega⟩
    · have := (((FB2.out.mono (T := b :: v.ownBlock.toList) (by simp)).alloc (.cells #[.string x] 9)).trans F (fun k hk => .inl (by simp [hk])))
      exact this.setCell _ _ (.inl (by simp))
  have HN := Lib.hid hN
  obtain ⟨g0, g1, g2, g3, g4, g5, gf⟩ := h2.books
  have gf0 := gf 0
  clear hN hn HB FB fr2 h2 g1 g2 g3 g4 g5 gf
  go_wp2_with (at_builtin; go_must (refine wpList_app _ rfl _ _ 24 rfl 9 (.string ⟨#[]⟩) 1 16 Tryd.underlying24 info3 rfl (by decide) v L.length (strs L) rfl (hown.alloc _) ⟨w2.heap.size, 0, none⟩ 1 1 [.string x] rfl rfl (new_one _ _ _ _ rfl) (by simp [Value.oneCell']) (by unfold maxLen; omega) (by omega) ?_); intro v1 w3 happ; obtain ⟨g1, cp1, rfl⟩ := own_succ happ.own; obtain ⟨⟨e1, e2⟩, e5⟩ := HN.out _ _ happ; have E5 := Lib.hid e5; clear e5)
  go_ret
  exact E5.out

/-- Nothing fits: it is lost. -/
def SamePost (w : World) (b : Nat) (v : Value) (L : List ByteArray) (most : Nat) (B : Bk) (r : Value) (e : Ending) (w' : World) : Prop :=
  e = .returned r ∧ LineAt w' b v L most B ∧ Fr [b] w w'
set_option maxHeartbeats 1000000 in
theorem put_full (w : World) (b : Nat) (v : Value) (L : List ByteArray) (most : Nat) (B : Bk) (x : ByteArray) (h : LineAt w b v L most B) (h1 : 1 ≤ most) (hl : most ≤ L.length) :
    Calls Tryd.prog 33 #[.pointer (some ⟨b, 0, none⟩), .string x] w (SamePost w b v L most ((B.set 2 (wrap64 (B.p + 1))).set 4 (wrap64 (B.d + 1))) (.bool false)) := by
  have HL := Lib.hid h
  have hmz : ((most : Int) == 0) = false := by rw [beq_eq_false_iff_ne]; omega
  have HM := Lib.hid hl
  clear hl
  go_enter Tryd.func33, Tryd.ntmps33
  go_wp2_with fail
  (with_reducible refine (most_any _ b v L most B HL.out).mono ?_)
  rintro e w1 ⟨rfl, rfl⟩
  obtain ⟨c0, c1, c2, c3, c4, c5, cf⟩ := h.books
  have f2 := cf 2
  clear h c0 c1 c3 c4 c5 cf
  go_wp2_with fail
  have HB := HL.out.book 2 (by omega) (wrap64 (B.p + 1))
  have FB : Fr [b] w (w.setCell ⟨b, 2, none⟩ (.int .i64 (wrap64 (B.p + 1)))) := (Fr.refl _ _).setCell _ _ (.inl (by simp))
  (with_reducible refine (full_any _ b v L most _ HB).mono ?_)
  rintro e w2 ⟨rfl, fr2, h2⟩
  have FB2 := Lib.hid (FB.trans fr2 (by simp))
  rw [decide_eq_true HM.out]
  have H2 := Lib.hid h2
  obtain ⟨g0, g1, g2, g3, g4, g5, gf⟩ := h2.books
  have gf4 := gf 4
  clear HB FB fr2 h2 g0 g1 g2 g3 g5 gf
  go_wp2
  go_ret
  exact ⟨rfl, H2.out.book 4 (by omega) _, FB2.out.setCell _ _ (.inl (by simp))⟩

/-- Which place a number names. -/
def place (i : Int) (n : Nat) : Nat := (i % (n : Int)).toNat
theorem place_lt (i : Int) {n : Nat} (h : 0 < n) : place i n < n := by unfold place; have := Int.emod_nonneg i (show (n : Int) ≠ 0 by omega); have := Int.emod_lt_of_pos i (show 0 < (n : Int) by omega); omega
theorem place_eq (i : Int) {n : Nat} (h : 0 < n) : (i.tmod n + n) % (n : Int) = (place i n : Int) := by
  unfold place
  have h1 := Int.emod_nonneg i (show (n : Int) ≠ 0 by omega)
  rw [Int.add_emod_right, Int.tmod_eq_emod]
  rw [Int.toNat_of_nonneg h1]
  split
  · simp
  · rw [Int.natAbs_natCast, Int.sub_emod, Int.emod_self]
    simp
theorem named_any (w : World) (b : Nat) (v : Value) (L : List ByteArray) (most : Nat) (B : Bk) (i : Int) (h : LineAt w b v L most B) (hl : 0 < L.length) (h64 : L.length ≤ 64) :
    Calls Tryd.prog 86 #[.pointer (some ⟨b, 0, none⟩), .int .i64 i] w fun e w' => e = .returned (.tuple #[.int .i64 (place i L.length), .bool true]) ∧ w = w' := by
  have HL := Lib.hid h
  obtain ⟨_, cc, _, hc, hm, _⟩ := h.form
  unfold maxLen at hm
  have hml : (L.length : Int) ≤ 64 := by omega
  have hmz : ((L.length : Int) == 0) = false := by rw [beq_eq_false_iff_ne]; omega
  have t1 : -(L.length : Int) < i.tmod L.length := by
    have := Int.tmod_lt_of_pos (-i) (show 0 < (L.length : Int) by omega)
    rw [Int.neg_tmod] at this; omega
  have t2 : i.tmod L.length < (L.length : Int) := Int.tmod_lt_of_pos i (by omega)
  have HP := Lib.hid (place_eq i hl)
  clear h hc hm
  generalize hn : L.length = n at *
  go_enter Tryd.func86, Tryd.ntmps86
  go_wp2_with fail
  (with_reducible refine (len_any _ b v L most B HL.out).mono ?_)
  rintro e w1 ⟨rfl, rfl⟩
  rw [hn]
  clear hn
  go_wp2
  go_ret2
  exact ⟨ret_pair HP.out rfl, rfl⟩



theorem wpList_cps {P : Program} {w : World} {ops : Array Oper} {rest : List Oper} {o : Oper} {a : Act} {Q : Exit → Act → World → Prop} (hgd : o.guard = none) (d s : Operand) (dT sT : TypeId)
    (ho : o.op = .call { callee := .builtin .copy, args := #[d, s], argTypes := #[dT, sT] }) (elem : TypeId) (hu : P.underlying dT = some (.slice elem)) (hsz : (P.info? elem).map (·.size) = some 1)
    (dp sp : Option Addr) (dLen dCap sLen sCap : Nat) (hd : a.eval d = .slice dp dLen dCap) (hs : a.eval s = .slice sp sLen sCap)
    (g off : Nat) (cur : List Value) (t : TypeId) (hg : Blk w g cur.toArray t) (cs : List Value) (hn : cs.length = Nat.min sLen dLen)
    (hpos : 0 < cs.length → dp = some ⟨g, off, none⟩ ∧ ∃ ad, sp = some ad ∧ ∀ j v, cs[j]? = some v → w.cell? (ad.add j) = some v)
    (hfit : off + cs.length ≤ cur.length) (h1 : ∀ v ∈ cs, v.oneCell' = true)
    (h : ∀ w', Blk w' g (splice cur off cs).toArray t → Fr [g] w w' → w'.heap.size = w.heap.size → wpList P ops Q rest (a.put o.dst (goInt cs.length)) w') :
    wpList P ops Q (o :: rest) a w := by
  by_cases h0 : cs.length = 0
  · obtain rfl : cs = [] := List.eq_nil_of_length_eq_zero h0
    refine wpList_copy_nothing hgd d s dT sT ho elem hu hsz dp sp dLen dCap sLen sCap hd hs (by simpa using hn.symm) ?_
    exact h w (by simpa [splice] using hg) (Fr.refl _ _) rfl
  · obtain ⟨rfl, ad, rfl, hsrc⟩ := hpos (by omega)
    refine wpList_copy_own hgd d s dT sT ho elem hu hsz g off dLen dCap ad sLen sCap hd hs cur.toArray t hg cs hn hsrc (by simpa using hfit) h1 ?_
    refine h _ ?_ ((Fr.refl [g] w).setRow g _ (.inl (by simp))) (by simp [World.setRow])
    have := setRow_heap w g cur.toArray ((cur.toArray.toList.take off ++ cs ++ cur.toArray.toList.drop (off + cs.length)).toArray) t (0, 0) hg
    simpa [splice, Blk] using this

theorem cut_row {C : List Value} {L : List ByteArray} {k n : Nat} (hn : L.length = n) (hk : k < n) (hC : C.take n = strs L) (x : Value) :
    ((splice C k (strs (L.drop (k + 1)))).set (n - 1) x).take (n - 1) = strs (L.eraseIdx k) := by
  have hcs : (strs (L.drop (k + 1))).length = n - 1 - k := by rw [strs_len, List.length_drop]; omega
  have hA : C.take k = strs (L.take k) := by
    have : (C.take n).take k = C.take k := by rw [List.take_take, Nat.min_eq_left (by omega)]
    rw [← this, hC, strs, strs, List.map_take]
  have hlen : (strs (L.take k)).length = k := by rw [strs_len, List.length_take]; omega
  rw [List.take_set_of_le (Nat.le_refl _), splice, hA, ← List.append_assoc, List.take_append_of_le_length (by rw [List.length_append, hlen, hcs]; omega), List.take_of_length_le (by rw [List.length_append, hlen, hcs]; omega), List.eraseIdx_eq_take_drop_succ]
  simp [strs]

/-- What cut leaves. -/
def CutPost (w : World) (b : Nat) (v : Value) (L : List ByteArray) (most : Nat) (B : Bk) (k : Nat) (e : Ending) (w' : World) : Prop :=
  e = .returned (.tuple #[.string (L.getD k ⟨#[]⟩), .bool true]) ∧ ∃ v', LineAt w' b v' (L.eraseIdx k) most B ∧ v'.ownBlock = v.ownBlock ∧ Fr (b :: v.ownBlock.toList) w w'

set_option maxRecDepth 100000 in
set_option maxHeartbeats 1000000 in
theorem cut_ok (w : World) (b : Nat) (v : Value) (L : List ByteArray) (most : Nat) (B : Bk) (i : Int) (h : LineAt w b v L most B) (hl : 0 < L.length) (h64 : L.length ≤ 64) :
    Calls Tryd.prog 84 #[.pointer (some ⟨b, 0, none⟩), .int .i64 i] w (CutPost w b v L most B (place i L.length)) := by
  have HL := Lib.hid h
  have hlt := place_lt i hl
  have HN := Lib.hid (named_any w b v L most B i h hl h64)
  generalize place i L.length = k at *
  obtain ⟨h1, h2⟩ := h
  rcases h2.2 with ⟨_, h0⟩ | ⟨g, cap, cur, rfl, _, hg, hnc, hcm, hcs, htk⟩
  · omega
  unfold maxLen at hcm
  generalize hn : L.length = n at *
  have c0 := h1.at 0 rfl
  have f0 := h1.free 0
  have hbg : b ≠ g := Blk.ne h1 (show Blk w g cur 9 from hg) (by decide)
  have hkL : k < L.length := by omega
  obtain ⟨x, hx⟩ : ∃ x, L.getD k ⟨#[]⟩ = x := ⟨_, rfl⟩
  have cg : w.cell? ⟨g, k, none⟩ = some (.string x) := by
    have := h2.cells (g := g) rfl k (.string (L.getD k ⟨#[]⟩)) (by simp [strs, List.getD_eq_getElem?_getD, hkL])
    rw [Addr.add_lit, hx] at this
    simpa using this
  have k1 : (0 : Int) ≤ (k : Int) := by omega
  have k2 : (k : Int) < (n : Int) := by omega
  have k3 : (n : Int) ≤ (cap : Int) := by omega
  have k4 : k ≤ n := by omega
  have k5 : k + 1 ≤ n := by omega
  have k6 : ¬ cap = k := by omega
  have k7 : IntKind.i64.wrap ((k : Int) + 1) = (k : Int) + 1 := by rw [IntKind.wrap_i64]; omega
  have k8 : (0 : Int) ≤ (k : Int) + 1 := by omega
  have k9 : (k : Int) + 1 ≤ (n : Int) := by omega
  have k10 : ((k : Int) + 1).toNat = k + 1 := by omega
  have HG := Lib.hid (And.intro hg (And.intro hcs (And.intro htk (And.intro hn (And.intro h1 hx)))))
  clear hg hcs htk hn hl h1 h2 HL hx hkL
  go_enter Tryd.func84, Tryd.ntmps84
  go_wp2_with fail
  (with_reducible refine HN.out.mono ?_)
  rintro e w1 ⟨rfl, rfl⟩
  go_wp2_with fail
  refine region_tail 13 (by kernel_rfl) (by kernel_rfl) ?_
  simp only [List.take_succ_cons, List.take_zero, List.drop_succ_cons, List.drop_zero]
  iterate 13 still_step
  refine wpStill_nil ?_
  obtain ⟨hg, hcs, htk, hn, hb0, hx⟩ := HG.out
  have hcl : cur.toList.length = cap := by simp [hcs]
  have hsrc : ∀ j u, (strs (L.drop (k + 1)))[j]? = some u → w.drew.cell? ((⟨g, k + 1, none⟩ : Addr).add j) = some u := by
    intro j u hu
    rw [Addr.add_lit]
    have h1 : (strs L)[k + 1 + j]? = some u := by
      rw [strs, List.getElem?_map] at hu ⊢
      rwa [List.getElem?_drop] at hu
    have h2 : cur.toList[k + 1 + j]? = some u := by
      rw [← htk, List.getElem?_take] at h1
      split at h1
      · exact h1
      · cases h1
    exact Blk.at (w := w.drew) (show Blk w.drew g cur 9 from hg) _ (by simpa using h2)
  refine wpList_cps rfl (.tmp 38) (.tmp 45) 24 24 rfl 9 Tryd.underlying24 (by kernel_rfl) (some ⟨g, k, none⟩) (if cap = k + 1 then some ⟨g, 0, none⟩ else some ⟨g, k + 1, none⟩) (n - k) (cap - k) (n - (k + 1)) (cap - (k + 1)) rfl rfl g k cur.toList 9 (show Blk w g cur.toList.toArray 9 by simpa [Blk] using hg).drew (strs (L.drop (k + 1))) (by rw [strs_len, List.length_drop]; show L.length - (k + 1) = min (n - (k + 1)) (n - k); omega)
    (fun h0 => ⟨rfl, ⟨g, k + 1, none⟩, by rw [if_neg]; rw [strs_len, List.length_drop] at h0; omega, hsrc⟩) (by rw [strs_len, List.length_drop]; omega) (strs_one _) ?_
  intro w2 hg2 f2 hs2
  have hb2 := f2.blk (Blk.drew hb0) (by simpa using hbg)
  have c0 := hb2.at 0 rfl
  have f0 := hb2.free 0
  have hx1 : ∃ y, w2.cell? ⟨g, n - 1, none⟩ = some y := by
    have hlt : n - 1 < (splice cur.toList k (strs (L.drop (k + 1)))).length := by
      rw [length_splice _ _ _ (by rw [strs_len, List.length_drop]; omega)]; omega
    exact ⟨_, hg2.at (n - 1) (v := (splice cur.toList k (strs (L.drop (k + 1))))[n - 1]) (by simp [hlt])⟩
  obtain ⟨y, cy⟩ := hx1
  have fy := hg2.free (n - 1)
  have hrow := cut_row hn (show k < n by omega) (by simpa using htk) (.string ⟨#[]⟩)
  have hfin : ∀ cp, cap = cp → CutPost w b (.slice (some ⟨g, 0, none⟩) n cap) L most B k (.returned (.tuple #[.string x, .bool true])) ((w2.setCell ⟨g, n - 1, none⟩ (.string ⟨#[]⟩)).setCell ⟨b, 0, none⟩ (.slice (some ⟨g, 0, none⟩) (n - 1) cp)) := by
    rintro cp rfl
    have hel : (L.eraseIdx k).length = n - 1 := by rw [List.length_eraseIdx, if_pos (by omega), hn]
    have hg3 := (hg2.set (n - 1) (.string ⟨#[]⟩)).other ⟨b, 0, none⟩ (.slice (some ⟨g, 0, none⟩) (n - 1) cap) (Ne.symm hbg)
    refine ⟨by rw [hx], _, ⟨(hb2.other _ _ hbg).set 0 _, ⟨by rw [strs_len, hel]; simp, .inr ⟨g, cap, _, by rw [hel], Nat.zero_le _, hg3, by omega, hcm, ?_, ?_⟩⟩⟩, rfl, ?_⟩
    · have := length_splice cur.toList k (strs (L.drop (k + 1))) (by rw [strs_len, List.length_drop]; omega)
      simp only [Array.size_setIfInBounds, List.size_toArray]
      omega
    · rw [hel, Nat.mul_one, ← hrow]
      simp
    · have hS : ∀ x, x ∈ [g] → x ∈ b :: (Value.slice (some ⟨g, 0, none⟩) n cap).ownBlock.toList := by intro x hx; simp at hx; subst hx; simp [Value.ownBlock]
      exact (((((Fr.refl _ w).drew).trans f2 (fun x hx => .inl (hS x hx))).setCell _ _ (.inl (hS _ (by simp)))).setCell _ _ (.inl (by simp)))
  have HFIN := Lib.hid hfin
  have HX := Lib.hid hn
  have m1 : ((n : Int) - 1).toNat = n - 1 := by omega
  have m2 : (0 : Int) ≤ (n : Int) - 1 := by omega
  have m3 : (n : Int) - 1 < (n : Int) := by omega
  clear hg hcs htk hn hb0 hcl hsrc hg2 f2 hs2 hb2 hrow hx cg k7 k8 k9 k10 hfin
  go_wp2_with fail
  all_goals
    go_ret2
    first | exact HFIN.out _ rfl | exact HFIN.out _ (by assumption)

theorem len_zero (w : World) (b : Nat) (v : Value) (most : Nat) (B : Bk) (h : LineAt w b v [] most B) : Calls Tryd.prog 16 #[.pointer (some ⟨b, 0, none⟩)] w fun e w' => e = .returned (.int .i64 0) ∧ w = w' := len_any w b v [] most B h
theorem named_no (w : World) (b : Nat) (v : Value) (most : Nat) (B : Bk) (i : Int) (h : LineAt w b v [] most B) :
    Calls Tryd.prog 86 #[.pointer (some ⟨b, 0, none⟩), .int .i64 i] w fun e w' => e = .returned (.tuple #[.int .i64 0, .bool false]) ∧ w = w' := by
  have HL := Lib.hid (len_zero w b v most B h)
  clear h
  go_enter Tryd.func86, Tryd.ntmps86
  go_wp2_with (go_at_call 16; refine HL.out.mono ?_; rintro e w1 ⟨rfl, rfl⟩)
  go_ret2
  exact ⟨rfl, rfl⟩
theorem cut_no (w : World) (b : Nat) (v : Value) (most : Nat) (B : Bk) (i : Int) (h : LineAt w b v [] most B) :
    Calls Tryd.prog 84 #[.pointer (some ⟨b, 0, none⟩), .int .i64 i] w fun e w' => e = .returned (.tuple #[.string ⟨#[]⟩, .bool false]) ∧ w = w' := by
  have HL := Lib.hid (named_no w b v most B i h)
  clear h
  go_enter Tryd.func84, Tryd.ntmps84
  go_wp2_with (go_at_call 86; refine HL.out.mono ?_; rintro e w1 ⟨rfl, rfl⟩)
  go_ret2
  exact ⟨rfl, rfl⟩

/-- What Take, what Lose leaves. -/
def TakePost (w : World) (b : Nat) (v : Value) (L : List ByteArray) (most : Nat) (B : Bk) (k : Nat) (r : Value) (e : Ending) (w' : World) : Prop :=
  e = .returned r ∧ ∃ v', LineAt w' b v' (L.eraseIdx k) most B ∧ v'.ownBlock = v.ownBlock ∧ Fr (b :: v.ownBlock.toList) w w'
theorem take_ok (w : World) (b : Nat) (v : Value) (L : List ByteArray) (most : Nat) (B : Bk) (i : Int) (h : LineAt w b v L most B) (hl : 0 < L.length) (h64 : L.length ≤ 64) :
    Calls Tryd.prog 35 #[.pointer (some ⟨b, 0, none⟩), .int .i64 i] w (TakePost w b v L most (B.set 3 (wrap64 (B.c + 1))) (place i L.length) (.tuple #[.string (L.getD (place i L.length) ⟨#[]⟩), .bool true])) := by
  have HC := Lib.hid (cut_ok w b v L most B i h hl h64)
  generalize place i L.length = k at *
  clear h hl h64
  unfold CutPost at HC
  obtain ⟨x, hx⟩ : ∃ x, L.getD k ⟨#[]⟩ = x := ⟨_, rfl⟩
  rw [hx] at HC ⊢
  clear hx
  go_enter Tryd.func35, Tryd.ntmps35
  go_wp2_with fail
  (with_reducible refine HC.out.mono ?_)
  rintro e w1 ⟨rfl, v', hl', ho, hf⟩
  obtain ⟨c0, c1, c2, c3, c4, c5, cf⟩ := hl'.books
  have f3 := cf 3
  have HH := Lib.hid (And.intro hl' (And.intro ho hf))
  clear hl' ho hf c0 c1 c2 c4 c5 cf
  go_wp2
  go_ret2
  exact ⟨rfl, v', HH.out.1.book 3 (by omega) _, HH.out.2.1, HH.out.2.2.setCell _ _ (.inl (by simp))⟩
theorem take_no (w : World) (b : Nat) (v : Value) (most : Nat) (B : Bk) (i : Int) (h : LineAt w b v [] most B) :
    Calls Tryd.prog 35 #[.pointer (some ⟨b, 0, none⟩), .int .i64 i] w fun e w' => e = .returned (.tuple #[.string ⟨#[]⟩, .bool false]) ∧ w = w' := by
  have HL := Lib.hid (cut_no w b v most B i h)
  clear h
  go_enter Tryd.func35, Tryd.ntmps35
  go_wp2_with (go_at_call 84; refine HL.out.mono ?_; rintro e w1 ⟨rfl, rfl⟩)
  go_ret2
  exact ⟨rfl, rfl⟩
theorem lose_ok (w : World) (b : Nat) (v : Value) (L : List ByteArray) (most : Nat) (B : Bk) (i : Int) (h : LineAt w b v L most B) (hl : 0 < L.length) (h64 : L.length ≤ 64) :
    Calls Tryd.prog 37 #[.pointer (some ⟨b, 0, none⟩), .int .i64 i] w (TakePost w b v L most (B.set 4 (wrap64 (B.d + 1))) (place i L.length) (.bool true)) := by
  have HC := Lib.hid (cut_ok w b v L most B i h hl h64)
  generalize place i L.length = k at *
  clear h hl h64
  unfold CutPost at HC
  obtain ⟨x, hx⟩ : ∃ x, L.getD k ⟨#[]⟩ = x := ⟨_, rfl⟩
  rw [hx] at HC
  clear hx
  go_enter Tryd.func37, Tryd.ntmps37
  go_wp2_with fail
  (with_reducible refine HC.out.mono ?_)
  rintro e w1 ⟨rfl, v', hl', ho, hf⟩
  obtain ⟨c0, c1, c2, c3, c4, c5, cf⟩ := hl'.books
  have f4 := cf 4
  have HH := Lib.hid (And.intro hl' (And.intro ho hf))
  clear hl' ho hf c0 c1 c2 c3 c5 cf
  go_wp2
  go_ret
  exact ⟨rfl, v', HH.out.1.book 4 (by omega) _, HH.out.2.1, HH.out.2.2.setCell _ _ (.inl (by simp))⟩
theorem lose_no (w : World) (b : Nat) (v : Value) (most : Nat) (B : Bk) (i : Int) (h : LineAt w b v [] most B) :
    Calls Tryd.prog 37 #[.pointer (some ⟨b, 0, none⟩), .int .i64 i] w fun e w' => e = .returned (.bool false) ∧ w = w' := by
  have HL := Lib.hid (cut_no w b v most B i h)
  clear h
  go_enter Tryd.func37, Tryd.ntmps37
  go_wp2_with (go_at_call 84; refine HL.out.mono ?_; rintro e w1 ⟨rfl, rfl⟩)
  go_ret
  exact ⟨rfl, rfl⟩



/-! ### append at a step of a region that draws its order -/
section
variable {P : Program}
theorem run_app_place (w : World) (t ty e : TypeId) (i : TypeInfo) (z : Value) (size bytes : Nat) (ht : P.underlying t = some (.slice e)) (hi : P.info? e = some i) (hz : i.zero = some z)
    (hsize : i.size = size) (hby : i.bytes = bytes)
    (v : Value) (n : Nat) (xs : List Value) (hown : w.ownsRow 0 e size v n xs)
    (a : Addr) (m c : Nat) (news : List Value) (hl : news.length = m * size) (hnews : ∀ j u, news[j]? = some u → w.cell? (a.add j) = some u) (h1 : ∀ u ∈ news, u.oneCell' = true)
    (h63 : n + m ≤ maxLen) (hbytes : (n + m) * bytes ≤ 140737488355328) (v' : Value) (w' : World) (hr : (Builtin.append_ #[t, t] ty #[v, .slice (some a) m c]).run P w = .ok v' w') :
    v'.ownBlock = v.ownBlock ∨ (v'.ownBlock = some w.heap.size ∧ ∀ k, k < w.heap.size → w'.heap[k]? = w.heap[k]?) := by
  subst hsize
  subst hby
  have hsmall : n + m ≤ 9223372036854775807 := by simp only [maxLen] at h63; omega
  rcases hown.2 with ⟨rfl, rfl⟩ | ⟨g, cap, cur, rfl, hbg, hg, hnc, hcm, hcs, htake⟩
  · by_cases hm : m = 0
    · subst hm
      simp [Builtin.append_, run_underlying ht, sizeOf, typeInfo, hi, Builtin.lenOf, Builtin.firstCells, loadCells, loadCellsFrom] at hr
      exact .inl (by rw [← hr.1])
    · have hr' := run_append_nil (P := P) w t ty e i z ht hi hz a m c news hl hnews (by omega) (by omega) (by have hb := hbytes; simp only [Nat.zero_add] at hb; omega)
      rw [hr] at hr'
      simp only [Result.ok.injEq] at hr'
      exact .inr ⟨by rw [hr'.1]; rfl, fun k hk => by rw [hr'.2]; exact Below.heap_alloc _ _ _ hk⟩
  · by_cases hroom : n + m ≤ cap
    · have hfit : n * i.size + news.length ≤ cur.size := by rw [hl, hcs, ← Nat.add_mul]; exact Nat.mul_le_mul_right _ hroom
      have hr' := run_append_room (P := P) w t ty e i ht hi g n cap cur hg a m c news hl hnews h1 hroom hfit
      rw [hr] at hr'
      simp only [Result.ok.injEq] at hr'
      exact .inl (by rw [hr'.1]; rfl)
    · have holds : ∀ j u, xs[j]? = some u → w.cell? ((⟨g, 0, none⟩ : Addr).add j) = some u := hown.cells (g := g) rfl
      have hr' := run_append_grow (P := P) w t ty e i z ht hi hz ⟨g, 0, none⟩ n cap xs hown.1 holds a m c news hl hnews (by omega) (by omega) (growslice_fits (by omega) hbytes)
      rw [hr] at hr'
      simp only [Result.ok.injEq] at hr'
      exact .inr ⟨by rw [hr'.1]; rfl, fun k hk => by rw [hr'.2]; exact Below.heap_alloc _ _ _ hk⟩


/-- What lay in the slice's own block lies there behind the append. -/
structure Appended2 (w : World) (e : TypeId) (size : Nat) (v : Value) (k : Nat) (xs news : List Value) (v' : Value) (w' : World) : Prop where
  app : Appended w e size v k (xs ++ news) v' w'
  kept : ∀ g j u, v.ownBlock = some g → xs[j]? = some u → w'.cell? ⟨g, j, none⟩ = some u
theorem step_app {w : World} {ops : Array Oper} {o : Oper} {a : Act} {K : Act → World → Prop} {Q : Exit → Act → World → Prop} {E : Prop} (hgd : o.guard = none) (s x : Operand) (t : TypeId)
    (hop : o.op = .call { callee := .builtin .append, args := #[s, x], argTypes := #[t, t] })
    (e : TypeId) (z : Value) (size bytes : Nat) (h1 : P.underlying t = some (.slice e)) (h2 : (P.info? e).map (fun i => (i.zero, i.size, i.bytes)) = some (some z, size, bytes)) (h6 : z.cells.size = size) (h7 : 0 < size)
    (v : Value) (k : Nat) (xs : List Value) (hs : a.eval s = v) (hown : w.ownsRow 0 e size v k xs) (ad : Addr) (m c : Nat) (news : List Value) (hx : a.eval x = .slice (some ad) m c) (hn : news.length = m * size)
    (hc : ∀ j u, news[j]? = some u → w.cell? (ad.add j) = some u) (h1c : ∀ u ∈ news, u.oneCell' = true) (b1 : k + m ≤ maxLen) (b2 : (k + m) * bytes ≤ 140737488355328)
    (hK : ∀ v' w', Appended2 w e size v (k + m) xs news v' w' → K (a.put o.dst v') w') :
    if Region.wanted o (yielded ops a.tmps) = true then Oper.wp P o a w K Q else E := by
  have hw : Region.wanted o (yielded ops a.tmps) = true := by simp [Region.wanted, hgd]
  rw [if_pos hw]
  obtain ⟨i, hi, hz, hsz, hby⟩ := info_parts h2
  obtain ⟨v', w', hrun, r1, r2, -⟩ := run_append_own (P := P) w 0 t o.type e i z size bytes h1 hi hz hsz hby h6 h7 v k xs hown ad m c news hn hc h1c b1 b2 (Nat.zero_le _)
  have r4 := run_app_place w t o.type e i z size bytes h1 hi hz hsz hby v k xs hown ad m c news hn hc h1c b1 b2 v' w' hrun
  have r5 : v'.ownBlock = v.ownBlock ∨ v'.ownBlock = some w.heap.size := r4.imp id (fun h => h.1)
  have r6 : ∀ g j u, v.ownBlock = some g → xs[j]? = some u → w'.cell? ⟨g, j, none⟩ = some u := by
    intro g j u hg hu
    have hold : w.cell? ⟨g, j, none⟩ = some u := by
      rcases hown.2 with ⟨rfl, _⟩ | ⟨g', cap, cur, rfl, _⟩
      · simp [Value.ownBlock] at hg
      · simp [Value.ownBlock] at hg
        subst hg
        have := hown.cells (g := g') rfl j u hu
        rw [Addr.add_lit] at this
        simpa using this
    rcases r4 with h | ⟨_, h⟩
    · rcases r1.2 with ⟨rfl, _⟩ | ⟨g', cap, cur, rfl, _⟩
      · rw [hg] at h; simp [Value.ownBlock] at h
      · have hgg : g' = g := by rw [hg] at h; simpa [Value.ownBlock] using h
        subst hgg
        have := r1.cells (g := g') rfl j u (by rw [List.getElem?_append_left (List.getElem?_eq_some_iff.1 hu).1]; exact hu)
        rw [Addr.add_lit] at this
        simpa using this
    · exact (World.cell?_of_block (w := w) (h g (own_lt hown hg))).trans hold
  unfold Oper.wp execOp
  simp only [hop, resolve, invoke, builtin, Sem.run_bind, Sem.run_pure, Result.andThen_ok, List.map_toArray, List.map_cons, List.map_nil, hs, hx, hrun]
  exact hK v' w' ⟨⟨r1, r2, r5⟩, r6⟩
end

set_option maxHeartbeats 1000000 in
theorem twice_ok (w : World) (b : Nat) (v : Value) (L : List ByteArray) (most : Nat) (B : Bk) (i : Int) (h : LineAt w b v L most B) (hl : 0 < L.length) (hm : most ≤ 64) (hlm : L.length < most) :
    Calls Tryd.prog 39 #[.pointer (some ⟨b, 0, none⟩), .int .i64 i] w (PutPost w b v L most (B.set 5 (wrap64 (B.e + 1))) (L.getD (place i L.length) ⟨#[]⟩)) := by
  have HN := Lib.hid (named_any w b v L most B i h hl (by omega))
  have HF := Lib.hid (full_any w b v L most B h)
  rw [decide_eq_false (by omega)] at HF
  have hlt := place_lt i hl
  generalize place i L.length = k at *
  have hkL : (strs L)[k]? = some (.string (L.getD k ⟨#[]⟩)) := by simp [strs, List.getD_eq_getElem?_getD, hlt]
  obtain ⟨x, hx⟩ : ∃ x, L.getD k ⟨#[]⟩ = x := ⟨_, rfl⟩
  rw [hx] at hkL ⊢
  have HK := Lib.hid hkL
  have hml : (L.length : Int) < 64 := by omega
  have k1 : (0 : Int) ≤ (k : Int) := by omega
  have k2 : (k : Int) < (L.length : Int) := by omega
  clear h hl hlm hx hkL hlt
  go_enter Tryd.func39, Tryd.ntmps39
  go_wp2_with fail
  (with_reducible refine HN.out.mono ?_)
  rintro e w1 ⟨rfl, rfl⟩
  go_wp2_with fail
  (with_reducible refine HF.out.mono ?_)
  rintro e w2 ⟨rfl, fr2, h2⟩
  have FB2 := Lib.hid fr2
  have hown := h2.2
  have hn := h2.notin
  rcases h2.2.2 with ⟨_, h0⟩ | ⟨g, cap, cur, rfl, _, hg, hnc, hcm, hcs, htk⟩
  · omega
  have cx : w2.cell? ⟨g, k, none⟩ = some (.string x) := by
    have := h2.2.cells (g := g) rfl k _ HK.out
    rw [Addr.add_lit] at this
    simpa using this
  have hN : ∀ v1 w3, Appended (w2.alloc (.cells #[.string x] 9)).drew 9 1 (.slice (some ⟨g, 0, none⟩) L.length cap) (L.length + 1) (strs L ++ [.string x]) v1 w3 →
      (w3.cell? ⟨b, 0, none⟩ = some (.slice (some ⟨g, 0, none⟩) L.length cap) ∧ w3.frozen? ⟨b, 0, none⟩ = false ∧ (w3.setCell ⟨b, 0, none⟩ v1).cell? ⟨b, 5, none⟩ = some (.int .i64 B.e) ∧ (w3.setCell ⟨b, 0, none⟩ v1).frozen? ⟨b, 5, none⟩ = false) ∧
      PutPost w b (.slice (some ⟨g, 0, none⟩) L.length cap) L most (B.set 5 (wrap64 (B.e + 1))) x (.returned (.bool true)) ((w3.setCell ⟨b, 0, none⟩ v1).setCell ⟨b, 5, none⟩ (.int .i64 (wrap64 (B.e + 1)))) := by
    intro v1 w3 hp
    obtain ⟨k1, k2⟩ := h2
    have F := hp.fr
    have kb := F.blk (k1.alloc _).drew hn
    have hn1 : b ∉ v1.ownBlock.toList := own_notin hp.own kb (by decide)
    have kc := kb.set 0 v1
    have hla : LineAt (w3.setCell ⟨b, 0, none⟩ v1) b v1 (L ++ [x]) most B := by
      refine ⟨kc, ?_⟩
      have := own_fr hp.own ((Fr.refl [b] w3).setCell ⟨b, 0, none⟩ v1 (.inl (by simp))) (fun g hg hm => hn1 (by simp at hm; subst hm; simp [hg]))
      simpa [strs] using this
    refine ⟨⟨kb.at 0 rfl, kb.free 0, kc.at 5 rfl, kc.free 5⟩, rfl, v1, hla.book 5 (by omega) _, ?_, ?_⟩
    · rcases hp.place with h | h
      · exact .inl h
      · exact .inr ⟨_, h, by have := FB2.out.size; simp; omega⟩
    · have := (((FB2.out.mono (T := b :: (Value.slice (some ⟨g, 0, none⟩) L.length cap).ownBlock.toList) (by simp)).alloc (.cells #[.string x] 9)).drew.trans F (fun k hk => .inl (by simp [hk])))
      exact (this.setCell _ _ (.inl (by simp))).setCell _ _ (.inl (by simp))
  have HNN := Lib.hid hN
  obtain ⟨g0, g1, g2, g3, g4, g5, gf⟩ := h2.books
  have hblt := h2.lt
  clear hN hn fr2 h2 g1 g2 g3 g4 g5 gf hg hcs htk
  go_wp2_with fail
  have HO := Lib.hid hown
  have n1 : b ≠ w2.heap.size := Nat.ne_of_lt hblt
  have n2 : g ≠ w2.heap.size := Nat.ne_of_lt (World.block_lt_of_cell? w2 _ cx)
  clear hown
  go_region_law
    ((refine step_app (by rfl) _ _ 24 (by rfl) 9 (.string ⟨#[]⟩) 1 16 Tryd.underlying24 info3 rfl (by decide) _ L.length (strs L) (by rfl) (by exact (World.ownsRow.alloc HO.out _)) ⟨w2.heap.size, 0, none⟩ 1 1 [.string x] (by rfl) rfl (by exact new_one w2 _ _ _ rfl) (by simp [Value.oneCell']) (by unfold maxLen; omega) (by omega) ?_; intro v1 w3 happ2; have happ := happ2.app; obtain ⟨g1, cp1, rfl⟩ := own_succ happ.own; obtain ⟨⟨e1, e2, e3, e4⟩, e5⟩ := HNN.out _ _ happ; have E5 := Lib.hid e5; clear e5 happ happ2))
  all_goals
    simp only [Exit.then]
    go_wp2
    go_ret
    exact E5.out

theorem twice_no (w : World) (b : Nat) (v : Value) (most : Nat) (B : Bk) (i : Int) (h : LineAt w b v [] most B) :
    Calls Tryd.prog 39 #[.pointer (some ⟨b, 0, none⟩), .int .i64 i] w fun e w' => e = .returned (.bool false) ∧ Fr [] w w' := by
  have HL := Lib.hid (named_no w b v most B i h)
  clear h
  go_enter Tryd.func39, Tryd.ntmps39
  go_wp2_with (go_at_call 86; refine HL.out.mono ?_; rintro e w1 ⟨rfl, rfl⟩)
  go_ret
  exact ⟨rfl, Fr.refl _ _⟩
theorem twice_full (w : World) (b : Nat) (v : Value) (L : List ByteArray) (most : Nat) (B : Bk) (i : Int) (h : LineAt w b v L most B) (hl : 0 < L.length) (h64 : L.length ≤ 64) (hlm : most ≤ L.length) :
    Calls Tryd.prog 39 #[.pointer (some ⟨b, 0, none⟩), .int .i64 i] w fun e w' => e = .returned (.bool false) ∧ Fr [] w w' := by
  have HN := Lib.hid (named_any w b v L most B i h hl h64)
  have HF := Lib.hid (full_any w b v L most B h)
  rw [decide_eq_true hlm] at HF
  generalize place i L.length = k at *
  clear h hl h64 hlm
  go_enter Tryd.func39, Tryd.ntmps39
  go_wp2_with fail
  (with_reducible refine HN.out.mono ?_)
  rintro e w1 ⟨rfl, rfl⟩
  go_wp2_with fail
  (with_reducible refine HF.out.mono ?_)
  rintro e w2 ⟨rfl, fr2, h2⟩
  have FB2 := Lib.hid fr2
  clear fr2 h2
  go_wp2
  go_ret
  exact ⟨rfl, FB2.out⟩

/-- What All took: a row of its own, in a box. -/
def AllHeld (k : Nat) (vr : Value) (L : List ByteArray) (W : World) : Prop := Blk W k #[vr] 24 ∧ W.ownsRow 0 9 1 vr L.length (strs L)
theorem AllHeld.fr {S : List Nat} {k : Nat} {vr : Value} {L : List ByteArray} {W W' : World} (h : AllHeld k vr L W) (f : Fr S W W') (hk : k ∉ S) (hv : ∀ g, vr.ownBlock = some g → g ∉ S) : AllHeld k vr L W' :=
  ⟨f.blk h.1 hk, own_fr h.2 f hv⟩
def AllPost (w : World) (L : List ByteArray) (e : Ending) (w' : World) : Prop :=
  ∃ k vr, e = .returned (.func (.func 32) #[] #[.pointer (some ⟨k, 0, none⟩)]) ∧ AllHeld k vr L w' ∧ w.heap.size ≤ k ∧ (∀ g, vr.ownBlock = some g → w.heap.size ≤ g) ∧ Fr [] w w'
set_option maxRecDepth 100000 in
theorem all_any (w : World) (b : Nat) (v : Value) (L : List ByteArray) (most : Nat) (B : Bk) (h : LineAt w b v L most B) (hl : 0 < L.length) (h64 : L.length ≤ 64) :
    Calls Tryd.prog 12 #[.pointer (some ⟨b, 0, none⟩)] w (AllPost w L) := by
  have hblt := h.lt
  have n1 : b ≠ w.heap.size := Nat.ne_of_lt hblt
  obtain ⟨c0, _⟩ := h.books
  have hown := h.2
  rcases h.2.2 with ⟨_, h0⟩ | ⟨g, cap, cur, rfl, _, hg, hnc, hcm, hcs, htk⟩
  · omega
  have hsrc : ∀ j u, (strs L)[j]? = some u → (w.alloc (.cells #[.slice none 0 0] 24)).drew.cell? ((⟨g, 0, none⟩ : Addr).add j) = some u := by
    intro j u hu
    have := hown.cells (g := g) rfl j u hu
    have hb : Fr [] w (w.alloc (.cells #[.slice none 0 0] 24)).drew := ((Fr.refl _ _).alloc _).drew
    rw [Addr.add_lit] at this ⊢
    exact (hb.cell (World.block_lt_of_cell? w _ this) (by simp)).trans this
  have hN : ∀ v1 w3, Appended (w.alloc (.cells #[.slice none 0 0] 24)).drew 9 1 (.slice none 0 0) (0 + L.length) ([] ++ strs L) v1 w3 →
      (w3.cell? ⟨w.heap.size, 0, none⟩ = some (.slice none 0 0) ∧ w3.frozen? ⟨w.heap.size, 0, none⟩ = false) ∧
      AllPost w L (.returned (.func (.func 32) #[] #[.pointer (some ⟨w.heap.size, 0, none⟩)])) (w3.setCell ⟨w.heap.size, 0, none⟩ v1) := by
    intro v1 w3 hp
    have F := hp.fr
    have kb := F.blk (Blk.new w #[.slice none 0 0] 24).drew (by simp [Value.ownBlock])
    have hn1 : w.heap.size ∉ v1.ownBlock.toList := own_notin hp.own kb (by decide)
    refine ⟨⟨kb.at 0 rfl, kb.free 0⟩, w.heap.size, v1, rfl, ⟨kb.set 0 v1, ?_⟩, Nat.le_refl _, ?_, ?_⟩
    · have := own_fr hp.own ((Fr.refl [w.heap.size] w3).setCell ⟨w.heap.size, 0, none⟩ v1 (.inl (by simp))) (fun g hg hm => hn1 (by simp at hm; subst hm; simp [hg]))
      simpa using this
    · intro g hg
      rcases hp.place with h | h
      · rw [h] at hg; simp [Value.ownBlock] at hg
      · rw [h] at hg; cases hg; simp
    · have : Fr [] w w3 := ((((Fr.refl [] w).alloc (.cells #[.slice none 0 0] 24)).drew).trans F (by simp [Value.ownBlock]))
      exact this.setCell _ _ (.inr (Nat.le_refl _))
  have HN := Lib.hid hN
  have HS := Lib.hid hsrc
  clear hN hsrc h hg hcs htk
  go_enter Tryd.func12, Tryd.ntmps12
  go_wp2_with fail
  refine region_tail 5 (by kernel_rfl) (by kernel_rfl) ?_
  simp only [List.take_succ_cons, List.take_zero, List.drop_succ_cons, List.drop_zero]
  iterate 5 still_step
  refine wpStill_nil ?_
  go_wp2_with (at_builtin; go_must (refine wpList_app _ rfl _ _ 24 rfl 9 (.string ⟨#[]⟩) 1 16 Tryd.underlying24 info3 rfl (by decide) _ 0 [] rfl (World.ownsRow_nil _ _ _ _) ⟨g, 0, none⟩ L.length cap (strs L) rfl (by rw [strs_len]; omega) HS.out (strs_one L) (by unfold maxLen; omega) (by omega) ?_); intro v1 w3 happ; have happ2 : Appended _ 9 1 _ (L.length - 1 + 1) _ v1 w3 := (by rw [show L.length - 1 + 1 = 0 + L.length by omega]; exact happ); obtain ⟨g1, cp1, rfl⟩ := own_succ happ2.own; obtain ⟨⟨e1, e2⟩, e5⟩ := HN.out _ _ happ; have E5 := Lib.hid e5; clear e5 happ happ2)
  go_ret
  exact E5.out


end LnS
end Go.Proofs.YtiimmndhinoaiaaDoor
