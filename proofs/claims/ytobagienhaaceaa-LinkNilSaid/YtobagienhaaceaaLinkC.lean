/-
  cut of a line.
-/
import Derived.Test.YtobagienhaaceaaLinkB
namespace Go.Proofs.Ytobagienhaaceaa
open Go.RowKit
set_option linter.unusedVariables false

theorem wpList_cps {P : Program} {w : World} {ops : Array Oper} {rest : List Oper} {o : Oper} {a : Act} {Q : Exit → Act → World → Prop} (hgd : o.guard = none) (d s : Operand) (dT sT : TypeId)
    (ho : o.op = .call { callee := .builtin .copy, args := #[d, s], argTypes := #[dT, sT] }) (elem : TypeId) (hu : P.underlying dT = some (.slice elem)) (hsz : (P.info? elem).map (·.size) = some 1)
    (dp sp : Option Addr) (dLen dCap sLen sCap : Nat) (hd : a.eval d = .slice dp dLen dCap) (hs : a.eval s = .slice sp sLen sCap)
    (g off : Nat) (cur : List Value) (t : TypeId) (hg : Blk w g cur.toArray t) (cs : List Value) (hn : cs.length = Nat.min sLen dLen)
    (hpos : 0 < cs.length → dp = some ⟨g, off, none⟩ ∧ ∃ ad, sp = some ad ∧ ∀ j v, cs[j]? = some v → w.cell? (ad.add j) = some v)
    (hfit : off + cs.length ≤ cur.length) (h1 : ∀ v ∈ cs, v.oneCell' = true)
    (h : ∀ w', Blk w' g (splice cur off cs).toArray t → Fr [g] w w' → w'.heap.size = w.heap.size → wpList P ops Q rest (a.put o.dst (goInt cs.length)) w') :
    wpList P ops Q (o :: rest) a w := by
  by_cases h0 : cs.length = 0
  · obtain rfl : cs = [] := List.eq_nil_of_length_eq_zero h0
    refine wpList_copy_nothing hgd d s dT sT ho elem hu hsz dp sp dLen dCap sLen sCap hd hs (by simpa using hn.symm) ?_
    exact h w (by simpa [splice] using hg) (Fr.refl _ _) rfl
  · obtain ⟨rfl, ad, rfl, hsrc⟩ := hpos (by omega)
    refine wpList_copy_own hgd d s dT sT ho elem hu hsz g off dLen dCap ad sLen sCap hd hs cur.toArray t hg cs hn hsrc (by simpa using hfit) h1 ?_
    refine h _ ?_ ((Fr.refl [g] w).setRow g _ (.inl (by simp))) (by simp [World.setRow])
    have := setRow_heap w g cur.toArray ((cur.toArray.toList.take off ++ cs ++ cur.toArray.toList.drop (off + cs.length)).toArray) t (0, 0) hg
    simpa [splice, Blk] using this

theorem cut_row {C : List Value} {L : List Int} {k n : Nat} (hn : L.length = n) (hk : k < n) (hC : C.take n = ints L) (x : Value) :
    ((splice C k (ints (L.drop (k + 1)))).set (n - 1) x).take (n - 1) = ints (L.eraseIdx k) := by
  have hcs : (ints (L.drop (k + 1))).length = n - 1 - k := by rw [ints_len, List.length_drop]; omega
  have hA : C.take k = ints (L.take k) := by
    have : (C.take n).take k = C.take k := by rw [List.take_take, Nat.min_eq_left (by omega)]
    rw [← this, hC, ints, ints, List.map_take]
  have hlen : (ints (L.take k)).length = k := by rw [ints_len, List.length_take]; omega
  rw [List.take_set_of_le (Nat.le_refl _), splice, hA, ← List.append_assoc, List.take_append_of_le_length (by rw [List.length_append, hlen, hcs]; omega), List.take_of_length_le (by rw [List.length_append, hlen, hcs]; omega), List.eraseIdx_eq_take_drop_succ]
  simp [ints]

/-- What cut leaves. -/
def CutPost (w : World) (b : Nat) (v : Value) (L : List Int) (most k : Nat) (e : Ending) (w' : World) : Prop :=
  e = .returned (.tuple #[.int .i64 (L.getD k 0), .bool true]) ∧ ∃ v', LineAt w' b v' (L.eraseIdx k) most ∧ v'.ownBlock = v.ownBlock ∧ Fr (b :: v.ownBlock.toList) w w'

set_option maxHeartbeats 1000000 in
theorem cut_ok (w : World) (b : Nat) (v : Value) (L : List Int) (most : Nat) (i : Int) (h : LineAt w b v L most) (hl : 0 < L.length) (h64 : L.length ≤ 64) :
    Calls Try.prog 14 #[.pointer (some ⟨b, 0, none⟩), .int .i64 i] w (CutPost w b v L most (place i L.length)) := by
  have HL := Lib.hid h
  have hlt := place_lt i hl
  have HN := Lib.hid (named_any w b v L most i h hl h64)
  generalize place i L.length = k at *
  obtain ⟨⟨p, c, d, e, h1⟩, h2⟩ := h
  rcases h2.2 with ⟨_, h0⟩ | ⟨g, cap, cur, rfl, _, hg, hnc, hcm, hcs, htk⟩
  · omega
  unfold maxLen at hcm
  generalize hn : L.length = n at *
  have c0 := h1.at 0 rfl
  have f0 := h1.free 0
  have hbg : b ≠ g := Blk.ne h1 (show Blk w g cur 3 from hg) (by decide)
  have hkL : k < L.length := by omega
  obtain ⟨x, hx⟩ : ∃ x, L.getD k 0 = x := ⟨_, rfl⟩
  have cg : w.cell? ⟨g, k, none⟩ = some (.int .i64 x) := by
    have := h2.cells (g := g) rfl k (.int .i64 (L.getD k 0)) (by simp [ints, List.getD_eq_getElem?_getD, hkL])
    rw [Addr.add_lit, hx] at this
    simpa using this
  have k1 : (0 : Int) ≤ (k : Int) := by omega
  have k2 : (k : Int) < (n : Int) := by omega
  have k3 : (n : Int) ≤ (cap : Int) := by omega
  have k4 : k ≤ n := by omega
  have k5 : k + 1 ≤ n := by omega
  have k6 : ¬ cap = k := by omega
  have k7 : IntKind.i64.wrap ((k : Int) + 1) = (k : Int) + 1 := by rw [IntKind.wrap_i64]; omega
  have k8 : (0 : Int) ≤ (k : Int) + 1 := by omega
  have k9 : (k : Int) + 1 ≤ (n : Int) := by omega
  have k10 : ((k : Int) + 1).toNat = k + 1 := by omega
  have HG := Lib.hid (And.intro hg (And.intro hcs (And.intro htk (And.intro hn (And.intro h1 hx)))))
  clear hg hcs htk hn hl h1 h2 HL hx hkL
  go_enter Try.func14, Try.ntmps14
  go_wp2_with fail
  (with_reducible refine HN.out.mono ?_)
  rintro e w1 ⟨rfl, rfl⟩
  go_wp2_with fail
  refine region_tail 13 (by kernel_rfl) (by kernel_rfl) ?_
  simp only [List.take_succ_cons, List.take_zero, List.drop_succ_cons, List.drop_zero]
  iterate 13 still_step
  refine wpStill_nil ?_
  obtain ⟨hg, hcs, htk, hn, hb0, hx⟩ := HG.out
  have hcl : cur.toList.length = cap := by simp [hcs]
  have hsrc : ∀ j u, (ints (L.drop (k + 1)))[j]? = some u → w.drew.cell? ((⟨g, k + 1, none⟩ : Addr).add j) = some u := by
    intro j u hu
    rw [Addr.add_lit]
    have h1 : (ints L)[k + 1 + j]? = some u := by
      rw [ints, List.getElem?_map] at hu ⊢
      rwa [List.getElem?_drop] at hu
    have h2 : cur.toList[k + 1 + j]? = some u := by
      rw [← htk, List.getElem?_take] at h1
      split at h1
      · exact h1
      · cases h1
    exact Blk.at (w := w.drew) (show Blk w.drew g cur 3 from hg) _ (by simpa using h2)
  refine wpList_cps rfl (.tmp 38) (.tmp 45) 28 28 rfl 3 Try.underlying28 (by kernel_rfl) (some ⟨g, k, none⟩) (if cap = k + 1 then some ⟨g, 0, none⟩ else some ⟨g, k + 1, none⟩) (n - k) (cap - k) (n - (k + 1)) (cap - (k + 1)) rfl rfl g k cur.toList 3 (show Blk w g cur.toList.toArray 3 by simpa [Blk] using hg).drew (ints (L.drop (k + 1))) (by rw [ints_len, List.length_drop]; show L.length - (k + 1) = min (n - (k + 1)) (n - k); omega)
    (fun h0 => ⟨rfl, ⟨g, k + 1, none⟩, by rw [if_neg]; rw [ints_len, List.length_drop] at h0; omega, hsrc⟩) (by rw [ints_len, List.length_drop]; omega) (ints_one _) ?_
  intro w2 hg2 f2 hs2
  have hb2 := f2.blk (Blk.drew hb0) (by simpa using hbg)
  have c0 := hb2.at 0 rfl
  have f0 := hb2.free 0
  have hx1 : ∃ y, w2.cell? ⟨g, n - 1, none⟩ = some y := by
    have hlt : n - 1 < (splice cur.toList k (ints (L.drop (k + 1)))).length := by
      rw [length_splice _ _ _ (by rw [ints_len, List.length_drop]; omega)]; omega
    exact ⟨_, hg2.at (n - 1) (v := (splice cur.toList k (ints (L.drop (k + 1))))[n - 1]) (by simp [hlt])⟩
  obtain ⟨y, cy⟩ := hx1
  have fy := hg2.free (n - 1)
  have hrow := cut_row hn (show k < n by omega) (by simpa using htk) (.int .i64 0)
  have hfin : ∀ cp, cap = cp → CutPost w b (.slice (some ⟨g, 0, none⟩) n cap) L most k (.returned (.tuple #[.int .i64 x, .bool true])) ((w2.setCell ⟨g, n - 1, none⟩ (.int .i64 0)).setCell ⟨b, 0, none⟩ (.slice (some ⟨g, 0, none⟩) (n - 1) cp)) := by
    rintro cp rfl
    have hel : (L.eraseIdx k).length = n - 1 := by rw [List.length_eraseIdx, if_pos (by omega), hn]
    have hg3 := (hg2.set (n - 1) (.int .i64 0)).other ⟨b, 0, none⟩ (.slice (some ⟨g, 0, none⟩) (n - 1) cap) (Ne.symm hbg)
    refine ⟨by rw [hx], _, ⟨⟨p, c, d, e, (hb2.other _ _ hbg).set 0 _⟩, ⟨by rw [ints_len, hel]; simp, .inr ⟨g, cap, _, by rw [hel], Nat.zero_le _, hg3, by omega, hcm, ?_, ?_⟩⟩⟩, rfl, ?_⟩
    · have := length_splice cur.toList k (ints (L.drop (k + 1))) (by rw [ints_len, List.length_drop]; omega)
      simp only [Array.size_setIfInBounds, List.size_toArray]
      omega
    · rw [hel, Nat.mul_one, ← hrow]
      simp
    · have hS : ∀ x, x ∈ [g] → x ∈ b :: (Value.slice (some ⟨g, 0, none⟩) n cap).ownBlock.toList := by intro x hx; simp at hx; subst hx; simp [Value.ownBlock]
      exact (((((Fr.refl _ w).drew).trans f2 (fun x hx => .inl (hS x hx))).setCell _ _ (.inl (hS _ (by simp)))).setCell _ _ (.inl (by simp)))
  have HFIN := Lib.hid hfin
  have HX := Lib.hid hn
  have m1 : ((n : Int) - 1).toNat = n - 1 := by omega
  have m2 : (0 : Int) ≤ (n : Int) - 1 := by omega
  have m3 : (n : Int) - 1 < (n : Int) := by omega
  clear hg hcs htk hn hb0 hcl hsrc hg2 f2 hs2 hb2 hrow hx cg k7 k8 k9 k10 hfin
  go_wp2_with fail
  all_goals
    go_ret2
    first | exact HFIN.out _ rfl | exact HFIN.out _ (by assumption)

theorem len_zero (w : World) (b : Nat) (v : Value) (most : Nat) (h : LineAt w b v [] most) : Calls Try.prog 11 #[.pointer (some ⟨b, 0, none⟩)] w fun e w' => e = .returned (.int .i64 0) ∧ w = w' := len_any w b v [] most h
theorem named_no (w : World) (b : Nat) (v : Value) (most : Nat) (i : Int) (h : LineAt w b v [] most) :
    Calls Try.prog 26 #[.pointer (some ⟨b, 0, none⟩), .int .i64 i] w fun e w' => e = .returned (.tuple #[.int .i64 0, .bool false]) ∧ w = w' := by
  have HL := Lib.hid (len_zero w b v most h)
  clear h
  go_enter Try.func26, Try.ntmps26
  go_wp2_with (go_at_call 11; refine HL.out.mono ?_; rintro e w1 ⟨rfl, rfl⟩)
  go_ret2
  exact ⟨rfl, rfl⟩
theorem cut_no (w : World) (b : Nat) (v : Value) (most : Nat) (i : Int) (h : LineAt w b v [] most) :
    Calls Try.prog 14 #[.pointer (some ⟨b, 0, none⟩), .int .i64 i] w fun e w' => e = .returned (.tuple #[.int .i64 0, .bool false]) ∧ w = w' := by
  have HL := Lib.hid (named_no w b v most i h)
  clear h
  go_enter Try.func14, Try.ntmps14
  go_wp2_with (go_at_call 26; refine HL.out.mono ?_; rintro e w1 ⟨rfl, rfl⟩)
  go_ret2
  exact ⟨rfl, rfl⟩

/-- What Take, what Lose leaves. -/
def TakePost (w : World) (b : Nat) (v : Value) (L : List Int) (most k : Nat) (r : Value) (e : Ending) (w' : World) : Prop :=
  e = .returned r ∧ ∃ v', LineAt w' b v' (L.eraseIdx k) most ∧ v'.ownBlock = v.ownBlock ∧ Fr (b :: v.ownBlock.toList) w w'
theorem take_ok (w : World) (b : Nat) (v : Value) (L : List Int) (most : Nat) (i : Int) (h : LineAt w b v L most) (hl : 0 < L.length) (h64 : L.length ≤ 64) :
    Calls Try.prog 8 #[.pointer (some ⟨b, 0, none⟩), .int .i64 i] w (TakePost w b v L most (place i L.length) (.tuple #[.int .i64 (L.getD (place i L.length) 0), .bool true])) := by
  have HC := Lib.hid (cut_ok w b v L most i h hl h64)
  generalize place i L.length = k at *
  clear h hl h64
  unfold CutPost at HC
  obtain ⟨x, hx⟩ : ∃ x, L.getD k 0 = x := ⟨_, rfl⟩
  rw [hx] at HC ⊢
  clear hx
  go_enter Try.func8, Try.ntmps8
  go_wp2_with fail
  (with_reducible refine HC.out.mono ?_)
  rintro e w1 ⟨rfl, v', hl', ho, hf⟩
  obtain ⟨p, c, d, e, c0, c1, c2, c3, c4, c5, cf⟩ := hl'.books
  have f3 := cf 3
  have HH := Lib.hid (And.intro hl' (And.intro ho hf))
  clear hl' ho hf c0 c1 c2 c4 c5 cf
  go_wp2
  go_ret2
  exact ⟨rfl, v', HH.out.1.book 3 (by omega) _, HH.out.2.1, HH.out.2.2.setCell _ _ (.inl (by simp))⟩
theorem take_no (w : World) (b : Nat) (v : Value) (most : Nat) (i : Int) (h : LineAt w b v [] most) :
    Calls Try.prog 8 #[.pointer (some ⟨b, 0, none⟩), .int .i64 i] w fun e w' => e = .returned (.tuple #[.int .i64 0, .bool false]) ∧ w = w' := by
  have HL := Lib.hid (cut_no w b v most i h)
  clear h
  go_enter Try.func8, Try.ntmps8
  go_wp2_with (go_at_call 14; refine HL.out.mono ?_; rintro e w1 ⟨rfl, rfl⟩)
  go_ret2
  exact ⟨rfl, rfl⟩
theorem lose_ok (w : World) (b : Nat) (v : Value) (L : List Int) (most : Nat) (i : Int) (h : LineAt w b v L most) (hl : 0 < L.length) (h64 : L.length ≤ 64) :
    Calls Try.prog 17 #[.pointer (some ⟨b, 0, none⟩), .int .i64 i] w (TakePost w b v L most (place i L.length) (.bool true)) := by
  have HC := Lib.hid (cut_ok w b v L most i h hl h64)
  generalize place i L.length = k at *
  clear h hl h64
  unfold CutPost at HC
  obtain ⟨x, hx⟩ : ∃ x, L.getD k 0 = x := ⟨_, rfl⟩
  rw [hx] at HC
  clear hx
  go_enter Try.func17, Try.ntmps17
  go_wp2_with fail
  (with_reducible refine HC.out.mono ?_)
  rintro e w1 ⟨rfl, v', hl', ho, hf⟩
  obtain ⟨p, c, d, e, c0, c1, c2, c3, c4, c5, cf⟩ := hl'.books
  have f4 := cf 4
  have HH := Lib.hid (And.intro hl' (And.intro ho hf))
  clear hl' ho hf c0 c1 c2 c3 c5 cf
  go_wp2
  go_ret
  exact ⟨rfl, v', HH.out.1.book 4 (by omega) _, HH.out.2.1, HH.out.2.2.setCell _ _ (.inl (by simp))⟩
theorem lose_no (w : World) (b : Nat) (v : Value) (most : Nat) (i : Int) (h : LineAt w b v [] most) :
    Calls Try.prog 17 #[.pointer (some ⟨b, 0, none⟩), .int .i64 i] w fun e w' => e = .returned (.bool false) ∧ w = w' := by
  have HL := Lib.hid (cut_no w b v most i h)
  clear h
  go_enter Try.func17, Try.ntmps17
  go_wp2_with (go_at_call 14; refine HL.out.mono ?_; rintro e w1 ⟨rfl, rfl⟩)
  go_ret
  exact ⟨rfl, rfl⟩

end Go.Proofs.Ytobagienhaaceaa
