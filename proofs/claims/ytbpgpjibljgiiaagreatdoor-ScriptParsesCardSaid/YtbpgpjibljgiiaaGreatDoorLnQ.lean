/-
  Script, plain: a step's line reads back as the step; a line that reads is the line of what was read. No program stands here.
-/
import Derived.Test.YtbpgpjibljgiiaaGreatDoorLrC
namespace Go.Proofs.YtbpgpjibljgiiaaGreatDoor
open Go.RowKit Lib
set_option linter.unusedVariables false
set_option linter.unusedSimpArgs false
namespace Sc
def toU (n : Int) : UInt8 := UInt8.ofNat n.toNat
theorem nib_of' : ∀ d : Fin 16, nib (toU (digR (d.val : Int))) = (d.val : Int) := by decide +kernel
theorem nib_of {x : Int} (h0 : 0 ≤ x) (h1 : x < 16) : nib (toU (digR x)) = x := by
  have := nib_of' ⟨x.toNat, by omega⟩
  simpa [show ((x.toNat : Nat) : Int) = x by omega] using this
theorem dig_nib' : ∀ c : Fin 256, 0 ≤ nib (UInt8.ofNat c.val) → toU (digR (nib (UInt8.ofNat c.val))) = UInt8.ofNat c.val := by decide +kernel
theorem dig_nib {c : UInt8} (h : 0 ≤ nib c) : toU (digR (nib c)) = c := by
  have := dig_nib' ⟨c.toNat, c.toNat_lt⟩
  simp at this
  exact this h
theorem hexN'_cons (z : Int) (l : List Int) : hexN' (z :: l) = digR (z / 16) :: digR (z % 16) :: hexN' l := by simp [hexN']
theorem hexL_of : ∀ (l : List Int), Byt l → hexL ((hexN' l).map toU) = some l
  | [], _ => rfl
  | z :: l, h => by
    have hz := h z (by simp)
    have ih := hexL_of l (fun y hy => h y (by simp [hy]))
    rw [hexN'_cons, List.map_cons, List.map_cons, hexL, nib_of (by omega) (by omega), nib_of (by omega) (by omega), if_neg (by omega), ih]
    simp only [Option.map_some]
    rw [show z / 16 * 16 + z % 16 = z by omega]
theorem hexL_is : ∀ (n : Nat) (L : List UInt8) (l : List Int), L.length ≤ n → L.length % 2 = 0 → hexL L = some l → L = (hexN' l).map toU ∧ Byt l
  | n, [], l, _, _, h => by
    simp [hexL] at h
    subst h
    exact ⟨rfl, fun z hz => by cases hz⟩
  | n, [a], l, _, h2, _ => by simp at h2
  | 0, a :: b :: r, l, h1, _, _ => by simp at h1
  | n + 1, a :: b :: r, l, h1, h2, h => by
    rw [hexL] at h
    split at h
    · cases h
    · rename_i hn
      rw [Option.map_eq_some_iff] at h
      obtain ⟨t, ht, rfl⟩ := h
      obtain ⟨q1, q2⟩ := hexL_is n r t (by simp at h1; omega) (by simp at h2; omega) ht
      have ha := nib_range a
      have hb := nib_range b
      refine ⟨?_, fun z hz => ?_⟩
      · rw [hexN'_cons, List.map_cons, List.map_cons, ← q1, show (nib a * 16 + nib b) / 16 = nib a by omega, show (nib a * 16 + nib b) % 16 = nib b by omega, dig_nib (by omega), dig_nib (by omega)]
      · simp only [List.mem_cons] at hz
        rcases hz with rfl | hz
        · omega
        · exact q2 z hz
theorem strOfNums_toU (l : List Int) : (strOfNums l).data.toList = l.map toU := rfl
theorem bytL_of {l : List Int} (h : Byt l) : bytL (strOfNums (hexN l)) = some l := by
  by_cases hl : l = []
  · subst hl
    exact if_pos rfl
  · have hp := List.length_pos_iff.2 hl
    have hs : (strOfNums (hexN l)).size = 2 * l.length := by rw [strOfNums_size, hexN_len, if_neg hl]
    unfold bytL
    rw [if_neg (fun q => by have := congrArg ByteArray.size q; rw [hs] at this; have h2 : dashB.size = 1 := rfl; omega), if_neg (by rw [hs]; omega), strOfNums_toU, show hexN l = hexN' l from if_neg hl]
    exact hexL_of l h
theorem bytL_is {x : ByteArray} {l : List Int} (h : bytL x = some l) : x = strOfNums (hexN l) ∧ Byt l := by
  unfold bytL at h
  split at h
  · rename_i hd
    simp at h
    subst h hd
    exact ⟨rfl, fun z hz => by cases hz⟩
  · split at h
    · cases h
    · rename_i hs
      have hlen : x.data.toList.length = x.size := size_list x
      obtain ⟨q1, q2⟩ := hexL_is _ _ _ (Nat.le_refl _) (by omega) h
      have hl : l ≠ [] := fun e => by
        subst e
        have := congrArg List.length q1
        simp [hexN'] at this
        have h3 : x.size = 0 := by rw [← hlen]; simpa using this
        omega
      refine ⟨?_, q2⟩
      apply ByteArray.ext
      apply Array.toList_inj.1
      rw [strOfNums_toU, show hexN l = hexN' l from if_neg hl]
      exact q1
/-! No blank -/
theorem dig_blank' : ∀ d : Fin 16, toU (digR (d.val : Int)) ≠ 32 := by decide +kernel
theorem hexN'_blank : ∀ (l : List Int), Byt l → (32 : UInt8) ∉ (hexN' l).map toU
  | [], _ => by simp [hexN']
  | z :: l, h => by
    have hz := h z (by simp)
    have ih := hexN'_blank l (fun y hy => h y (by simp [hy]))
    have h1 := dig_blank' ⟨(z / 16).toNat, by omega⟩
    have h2 := dig_blank' ⟨(z % 16).toNat, by omega⟩
    simp only [show (((z / 16).toNat : Nat) : Int) = z / 16 by omega, show (((z % 16).toNat : Nat) : Int) = z % 16 by omega] at h1 h2
    rw [hexN'_cons, List.map_cons, List.map_cons]
    simp only [List.mem_cons, not_or]
    exact ⟨fun e => h1 e.symm, fun e => h2 e.symm, ih⟩
theorem hexT_blank {l : List Int} (h : Byt l) : (32 : UInt8) ∉ (strOfNums (hexN l)).data.toList := by
  rw [strOfNums_toU]
  by_cases hl : l = []
  · subst hl; decide
  · rw [show hexN l = hexN' l from if_neg hl]; exact hexN'_blank l h
theorem numT_blank (n : Int) : (32 : UInt8) ∉ (numT n).data.toList := by
  show (32 : UInt8) ∉ itoa n
  unfold itoa
  split
  · simp only [List.mem_cons, not_or]
    exact ⟨by decide, fun h => by have := dd_digit _ _ h; simp at this⟩
  · exact fun h => by have := dd_digit _ _ h; simp at this
theorem words_blank (k : Nat) : ∀ x ∈ wordsL k, (32 : UInt8) ∉ x.data.toList := by
  unfold wordsL
  split <;> decide
theorem lineL_blank {s : St} (h : Byt s.by') : ∀ x ∈ lineL s, (32 : UInt8) ∉ x.data.toList := by
  intro x hx
  unfold lineL at hx
  rcases List.mem_append.1 hx with hx | hx
  · exact words_blank _ x hx
  · unfold tailL at hx
    split at hx
    · simp at hx; subst hx; exact hexT_blank h
    · simp at hx; subst hx; exact numT_blank _
    · simp at hx
    · simp at hx
    · simp at hx
      rcases hx with rfl | rfl <;> exact numT_blank _
theorem fields_join {L : List ByteArray} (h0 : L ≠ []) (h : ∀ x ∈ L, (32 : UInt8) ∉ x.data.toList) : fieldsB (joinT L) = L := by
  obtain ⟨x, r, rfl⟩ := List.exists_cons_of_ne_nil h0
  unfold fieldsB joinT
  have := pieces_join (c := 32) x.data.toList (r.map (·.data.toList)) (fun p hp => by
    rw [← List.map_cons (f := fun (b : ByteArray) => b.data.toList)] at hp
    obtain ⟨y, hy, rfl⟩ := List.mem_map.1 hp
    exact h y hy)
  rw [List.map_cons, show ((⟨(Lib.join (x.data.toList :: r.map (·.data.toList)) [32]).toArray⟩ : ByteArray).data.toList) = Lib.join (x.data.toList :: r.map (·.data.toList)) [32] from rfl, this, List.map_cons, List.map_map]
  congr 1
  exact (List.map_congr_left fun y _ => rfl).trans (List.map_id r)
theorem join_fields (t : ByteArray) : joinT (fieldsB t) = t := by
  unfold fieldsB joinT
  rw [List.map_map]
  have : ((pieces 32 t.data.toList).map ((fun (b : ByteArray) => b.data.toList) ∘ fun l => (⟨l.toArray⟩ : ByteArray))) = pieces 32 t.data.toList := (List.map_congr_left fun y _ => rfl).trans (List.map_id _)
  rw [this, join_pieces]
/-! A printed step reads back -/
theorem numF_of {F : List ByteArray} {k : Nat} {n : Int} (hk : k < F.length) (h : fld F k = numT n) (h0 : -9223372036854775808 ≤ n) (h1 : n ≤ 9223372036854775807) : numF F k = none ∧ numN F k = n ∧ nextK F k = k + 1 := by
  have hs : scan (fld F k).data.toList = some n := by rw [h]; exact scan_itoa h0 h1
  refine ⟨?_, ?_, if_pos hk⟩
  · unfold numF; rw [if_pos hk, hs]; rfl
  · unfold numN; rw [if_pos hk, hs]; rfl
theorem over_of {F : List ByteArray} {k : Nat} (h : F.length ≤ k) : overF F k = none := if_neg (by omega)
theorem two_ok {F : List ByteArray} {k : Nat} {x y : Int} (hk : k + 1 < F.length) (h1 : fld F k = numT x) (h2 : fld F (k + 1) = numT y) (hx : -9223372036854775808 ≤ x ∧ x ≤ 9223372036854775807) (hy : -9223372036854775808 ≤ y ∧ y ≤ 9223372036854775807) :
    twoF F k = none ∧ twoS F k = x ∧ twoP F k = y ∧ twoK F k = k + 2 := by
  obtain ⟨a1, a2, a3⟩ := numF_of (by omega) h1 hx.1 hx.2
  obtain ⟨b1, b2, b3⟩ := numF_of hk h2 hy.1 hy.2
  unfold twoF twoS twoP twoK
  rw [a1, a2, a3]
  simp only [Option.isSome_none, Bool.false_eq_true, if_false]
  exact ⟨b1, trivial, b2, b3⟩
theorem reads_back {s : St} (hi : StI s) (h : mayS s = true) : stepF (lineL s) = none ∧ stepS (lineL s) = s := by
  obtain ⟨kd, la, sl, pl, by'⟩ := s
  have hk : 1 ≤ kd ∧ kd ≤ 10 := may_kind h
  have hb : (⟨kd, la, sl, pl, by'⟩ : St) = bareS ⟨kd, la, sl, pl, by'⟩ := by
    rw [may_is, Bool.and_eq_true, decide_eq_true_eq, decide_eq_true_eq] at h
    exact h.2
  have hla := hi.2.1
  have hsl := hi.2.2.1
  have hpl := hi.2.2.2.1
  have hby := hi.2.2.2.2
  have hc : kd = 1 ∨ kd = 2 ∨ kd = 3 ∨ kd = 4 ∨ kd = 5 ∨ kd = 6 ∨ kd = 7 ∨ kd = 8 ∨ kd = 9 ∨ kd = 10 := by omega
  rcases hc with rfl | rfl | rfl | rfl | rfl | rfl | rfl | rfl | rfl | rfl
  · have e : (⟨1, la, sl, pl, by'⟩ : St) = ⟨1, 0, 0, 0, by'⟩ := hb
    rw [e]
    obtain ⟨F, hF⟩ : ∃ F, F = lineL ⟨1, 0, 0, 0, by'⟩ := ⟨_, rfl⟩
    have h0 : fld F 0 = ⟨#[99, 111, 109, 109, 97, 110, 100]⟩ := by rw [hF]; rfl
    have h1 : fld F 1 = strOfNums (hexN by') := by rw [hF]; rfl
    have hl : F.length = 2 := by rw [hF]; rfl
    rw [← hF]
    have hkd : kindN (fld F 0) = 1 := by rw [h0]; decide +kernel
    have hbl : bytL (fld F 1) = some by' := by rw [h1]; exact bytL_of hby
    rw [stepF, stepS, hkd]
    have e1 : bytF F 1 = none := by unfold bytF; rw [if_pos (by omega), hbl]; rfl
    have e2 : bytN F 1 = by' := by unfold bytN; rw [if_pos (by omega), hbl]; rfl
    have e3 : nextK F 1 = 2 := if_pos (by omega)
    exact ⟨by show thenF (bytF F 1) (overF F (nextK F 1)) = none; rw [e1, e3, over_of (by omega)]; rfl, by show (⟨1, 0, 0, 0, bytN F 1⟩ : St) = _; rw [e2]⟩
  · have e : (⟨2, la, sl, pl, by'⟩ : St) = ⟨2, la, 0, 0, []⟩ := hb
    rw [e]
    obtain ⟨F, hF⟩ : ∃ F, F = lineL ⟨2, la, 0, 0, []⟩ := ⟨_, rfl⟩
    have h0 : fld F 0 = ⟨#[108, 97, 110, 101]⟩ := by rw [hF]; rfl
    have h1 : fld F 1 = numT la := by rw [hF]; rfl
    have hl : F.length = 2 := by rw [hF]; rfl
    rw [← hF]
    have hkd : kindN (fld F 0) = 2 := by rw [h0]; decide +kernel
    obtain ⟨e1, e2, e3⟩ := numF_of (by omega) h1 hla.1 hla.2
    rw [stepF, stepS, hkd]
    exact ⟨by show thenF (numF F 1) (overF F (nextK F 1)) = none; rw [e1, e3, over_of (by omega)]; rfl, by show (⟨2, numN F 1, 0, 0, []⟩ : St) = _; rw [e2]⟩
  · have e : (⟨3, la, sl, pl, by'⟩ : St) = ⟨3, 0, 0, 0, []⟩ := hb
    rw [e]
    exact ⟨by decide +kernel, by decide +kernel⟩
  · have e : (⟨4, la, sl, pl, by'⟩ : St) = ⟨4, 0, 0, 0, []⟩ := hb
    rw [e]
    exact ⟨by decide +kernel, by decide +kernel⟩
  · have e : (⟨5, la, sl, pl, by'⟩ : St) = ⟨5, 0, sl, pl, []⟩ := hb
    rw [e]
    obtain ⟨F, hF⟩ : ∃ F, F = lineL ⟨5, 0, sl, pl, []⟩ := ⟨_, rfl⟩
    have h0 : fld F 0 = ⟨#[100, 111, 119, 110]⟩ := by rw [hF]; rfl
    have h1 : fld F 1 = numT sl := by rw [hF]; rfl
    have h2 : fld F 2 = numT pl := by rw [hF]; rfl
    have hl : F.length = 3 := by rw [hF]; rfl
    rw [← hF]
    have hkd : kindN (fld F 0) = 5 := by rw [h0]; decide +kernel
    obtain ⟨e1, e2, e3, e4⟩ := two_ok (k := 1) (by omega) h1 h2 hsl hpl
    rw [stepF, stepS, hkd]
    exact ⟨by show thenF (twoF F 1) (overF F (twoK F 1)) = none; rw [e1, e4, over_of (by omega)]; rfl, by show (⟨5, 0, twoS F 1, twoP F 1, []⟩ : St) = _; rw [e2, e3]⟩
  · have e : (⟨6, la, sl, pl, by'⟩ : St) = ⟨6, 0, sl, pl, []⟩ := hb
    rw [e]
    obtain ⟨F, hF⟩ : ∃ F, F = lineL ⟨6, 0, sl, pl, []⟩ := ⟨_, rfl⟩
    have h0 : fld F 0 = ⟨#[117, 112]⟩ := by rw [hF]; rfl
    have h1 : fld F 1 = numT sl := by rw [hF]; rfl
    have h2 : fld F 2 = numT pl := by rw [hF]; rfl
    have hl : F.length = 3 := by rw [hF]; rfl
    rw [← hF]
    have hkd : kindN (fld F 0) = 6 := by rw [h0]; decide +kernel
    obtain ⟨e1, e2, e3, e4⟩ := two_ok (k := 1) (by omega) h1 h2 hsl hpl
    rw [stepF, stepS, hkd]
    exact ⟨by show thenF (twoF F 1) (overF F (twoK F 1)) = none; rw [e1, e4, over_of (by omega)]; rfl, by show (⟨6, 0, twoS F 1, twoP F 1, []⟩ : St) = _; rw [e2, e3]⟩
  · have e : (⟨7, la, sl, pl, by'⟩ : St) = ⟨7, 0, sl, pl, []⟩ := hb
    rw [e]
    obtain ⟨F, hF⟩ : ∃ F, F = lineL ⟨7, 0, sl, pl, []⟩ := ⟨_, rfl⟩
    have h0 : fld F 0 = ⟨#[108, 111, 115, 101]⟩ := by rw [hF]; rfl
    have h1 : fld F 1 = downB := by rw [hF]; rfl
    have h2 : fld F 2 = numT sl := by rw [hF]; rfl
    have h3 : fld F 3 = numT pl := by rw [hF]; rfl
    have hl : F.length = 4 := by rw [hF]; rfl
    rw [← hF]
    have hkd : kindN (fld F 0) = 7 := by rw [h0]; decide +kernel
    obtain ⟨e1, e2, e3, e4⟩ := two_ok (k := 2) (by omega) h2 h3 hsl hpl
    have hok : wayOk F 1 := ⟨by omega, .inr h1⟩
    have hd : wayD 7 F 1 = 7 := if_neg (fun q => by rw [h1] at q; exact absurd q.2 (by decide))
    rw [stepF, stepS, hkd]
    exact ⟨by show thenF (wayF F 1) (overF F (wayK F 1)) = none; rw [show wayF F 1 = twoF F 2 from if_pos hok, show wayK F 1 = twoK F 2 from if_pos hok, e1, e4, over_of (by omega)]; rfl, by show (⟨wayD 7 F 1, 0, wayS F 1, wayP F 1, []⟩ : St) = _; rw [hd, show wayS F 1 = twoS F 2 from if_pos hok, show wayP F 1 = twoP F 2 from if_pos hok, e2, e3]⟩
  · have e : (⟨8, la, sl, pl, by'⟩ : St) = ⟨8, 0, sl, pl, []⟩ := hb
    rw [e]
    obtain ⟨F, hF⟩ : ∃ F, F = lineL ⟨8, 0, sl, pl, []⟩ := ⟨_, rfl⟩
    have h0 : fld F 0 = ⟨#[108, 111, 115, 101]⟩ := by rw [hF]; rfl
    have h1 : fld F 1 = upB := by rw [hF]; rfl
    have h2 : fld F 2 = numT sl := by rw [hF]; rfl
    have h3 : fld F 3 = numT pl := by rw [hF]; rfl
    have hl : F.length = 4 := by rw [hF]; rfl
    rw [← hF]
    have hkd : kindN (fld F 0) = 7 := by rw [h0]; decide +kernel
    obtain ⟨e1, e2, e3, e4⟩ := two_ok (k := 2) (by omega) h2 h3 hsl hpl
    have hok : wayOk F 1 := ⟨by omega, .inl h1⟩
    have hd : wayD 7 F 1 = 8 := if_pos ⟨by omega, h1⟩
    rw [stepF, stepS, hkd]
    exact ⟨by show thenF (wayF F 1) (overF F (wayK F 1)) = none; rw [show wayF F 1 = twoF F 2 from if_pos hok, show wayK F 1 = twoK F 2 from if_pos hok, e1, e4, over_of (by omega)]; rfl, by show (⟨wayD 7 F 1, 0, wayS F 1, wayP F 1, []⟩ : St) = _; rw [hd, show wayS F 1 = twoS F 2 from if_pos hok, show wayP F 1 = twoP F 2 from if_pos hok, e2, e3]⟩
  · have e : (⟨9, la, sl, pl, by'⟩ : St) = ⟨9, 0, sl, pl, []⟩ := hb
    rw [e]
    obtain ⟨F, hF⟩ : ∃ F, F = lineL ⟨9, 0, sl, pl, []⟩ := ⟨_, rfl⟩
    have h0 : fld F 0 = ⟨#[116, 119, 105, 99, 101]⟩ := by rw [hF]; rfl
    have h1 : fld F 1 = downB := by rw [hF]; rfl
    have h2 : fld F 2 = numT sl := by rw [hF]; rfl
    have h3 : fld F 3 = numT pl := by rw [hF]; rfl
    have hl : F.length = 4 := by rw [hF]; rfl
    rw [← hF]
    have hkd : kindN (fld F 0) = 9 := by rw [h0]; decide +kernel
    obtain ⟨e1, e2, e3, e4⟩ := two_ok (k := 2) (by omega) h2 h3 hsl hpl
    have hok : wayOk F 1 := ⟨by omega, .inr h1⟩
    have hd : wayD 9 F 1 = 9 := if_neg (fun q => by rw [h1] at q; exact absurd q.2 (by decide))
    rw [stepF, stepS, hkd]
    exact ⟨by show thenF (wayF F 1) (overF F (wayK F 1)) = none; rw [show wayF F 1 = twoF F 2 from if_pos hok, show wayK F 1 = twoK F 2 from if_pos hok, e1, e4, over_of (by omega)]; rfl, by show (⟨wayD 9 F 1, 0, wayS F 1, wayP F 1, []⟩ : St) = _; rw [hd, show wayS F 1 = twoS F 2 from if_pos hok, show wayP F 1 = twoP F 2 from if_pos hok, e2, e3]⟩
  · have e : (⟨10, la, sl, pl, by'⟩ : St) = ⟨10, 0, sl, pl, []⟩ := hb
    rw [e]
    obtain ⟨F, hF⟩ : ∃ F, F = lineL ⟨10, 0, sl, pl, []⟩ := ⟨_, rfl⟩
    have h0 : fld F 0 = ⟨#[116, 119, 105, 99, 101]⟩ := by rw [hF]; rfl
    have h1 : fld F 1 = upB := by rw [hF]; rfl
    have h2 : fld F 2 = numT sl := by rw [hF]; rfl
    have h3 : fld F 3 = numT pl := by rw [hF]; rfl
    have hl : F.length = 4 := by rw [hF]; rfl
    rw [← hF]
    have hkd : kindN (fld F 0) = 9 := by rw [h0]; decide +kernel
    obtain ⟨e1, e2, e3, e4⟩ := two_ok (k := 2) (by omega) h2 h3 hsl hpl
    have hok : wayOk F 1 := ⟨by omega, .inl h1⟩
    have hd : wayD 9 F 1 = 10 := if_pos ⟨by omega, h1⟩
    rw [stepF, stepS, hkd]
    exact ⟨by show thenF (wayF F 1) (overF F (wayK F 1)) = none; rw [show wayF F 1 = twoF F 2 from if_pos hok, show wayK F 1 = twoK F 2 from if_pos hok, e1, e4, over_of (by omega)]; rfl, by show (⟨wayD 9 F 1, 0, wayS F 1, wayP F 1, []⟩ : St) = _; rw [hd, show wayS F 1 = twoS F 2 from if_pos hok, show wayP F 1 = twoP F 2 from if_pos hok, e2, e3]⟩
/-! A line that reads is the line of what was read -/
theorem numF_fine {F : List ByteArray} {k : Nat} (h : numF F k = none) : k < F.length ∧ nextK F k = k + 1 ∧ fld F k = numT (numN F k) ∧ -9223372036854775808 ≤ numN F k ∧ numN F k ≤ 9223372036854775807 := by
  unfold numF at h
  split at h
  · rename_i hk
    split at h
    · rename_i hs
      obtain ⟨n, hn⟩ := Option.isSome_iff_exists.1 hs
      obtain ⟨q1, q2, q3⟩ := scan_is hn
      have e : numN F k = n := by unfold numN; rw [if_pos hk, hn]; rfl
      refine ⟨hk, if_pos hk, ?_, by rw [e]; exact q2, by rw [e]; exact q3⟩
      rw [e]
      apply ByteArray.ext
      apply Array.toList_inj.1
      exact q1
    · cases h
  · cases h
theorem over_none {F : List ByteArray} {k : Nat} (h : overF F k = none) : F.length ≤ k := by
  unfold overF at h
  by_cases q : k < F.length
  · rw [if_pos q] at h; cases h
  · omega
theorem two_none {F : List ByteArray} {k : Nat} (h : twoF F k = none) : k + 1 < F.length ∧ twoK F k = k + 2 ∧ fld F k = numT (twoS F k) ∧ fld F (k + 1) = numT (twoP F k) ∧ (-9223372036854775808 ≤ twoS F k ∧ twoS F k ≤ 9223372036854775807) ∧ (-9223372036854775808 ≤ twoP F k ∧ twoP F k ≤ 9223372036854775807) := by
  unfold twoF at h
  split at h
  · rename_i hs; rw [h] at hs; cases hs
  · rename_i hs
    have h1 : numF F k = none := by simpa using hs
    obtain ⟨a1, a2, a3, a4⟩ := numF_fine h1
    rw [a2] at h
    obtain ⟨b1, b2, b3, b4⟩ := numF_fine h
    have e1 : twoS F k = numN F k := if_neg hs
    have e2 : twoP F k = numN F (k + 1) := by unfold twoP; rw [if_neg hs, a2]
    have e3 : twoK F k = k + 2 := by unfold twoK; rw [if_neg hs, a2, b2]
    rw [e1, e2]
    exact ⟨b1, e3, a3, b3, a4, b4⟩
theorem list1 {F : List ByteArray} (h : F.length = 1) : F = [fld F 0] := by match F, h with | [a], _ => rfl
theorem list2 {F : List ByteArray} (h : F.length = 2) : F = [fld F 0, fld F 1] := by match F, h with | [a, b], _ => rfl
theorem list3 {F : List ByteArray} (h : F.length = 3) : F = [fld F 0, fld F 1, fld F 2] := by match F, h with | [a, b, c], _ => rfl
theorem list4 {F : List ByteArray} (h : F.length = 4) : F = [fld F 0, fld F 1, fld F 2, fld F 3] := by match F, h with | [a, b, c, d], _ => rfl
theorem byt_nil : Byt [] := fun z hz => by cases hz
theorem prints_back {F : List ByteArray} (h0 : 0 < F.length) (h : stepF F = none) : lineL (stepS F) = F ∧ mayS (stepS F) = true ∧ StI (stepS F) := by
  have hz : (-9223372036854775808 : Int) ≤ 0 ∧ (0 : Int) ≤ 9223372036854775807 := by omega
  rcases kindN_cases (fld F 0) with hk | hk | hk | hk | hk | hk | hk | hk | hk
  · rw [stepF, hk] at h; cases h
  · rw [stepF, hk] at h
    obtain ⟨a, b⟩ := thenF_none (show thenF (bytF F 1) (overF F (nextK F 1)) = none from h)
    have hw : fld F 0 = ⟨#[99, 111, 109, 109, 97, 110, 100]⟩ := by have := kindN_is hk (by decide); exact (Option.some.inj this).symm
    have h1 : 1 < F.length := Classical.byContradiction fun q => by unfold bytF at a; rw [if_neg q] at a; cases a
    obtain ⟨l, hl⟩ : ∃ l, bytL (fld F 1) = some l := by
      cases hl : bytL (fld F 1) with
      | some l => exact ⟨l, rfl⟩
      | none => unfold bytF at a; rw [if_pos h1, hl] at a; cases a
    obtain ⟨q1, q2⟩ := bytL_is hl
    rw [show nextK F 1 = 2 from if_pos h1] at b
    have h2 := over_none b
    have e : stepS F = ⟨1, 0, 0, 0, l⟩ := by
      rw [stepS, hk]
      show (⟨1, 0, 0, 0, bytN F 1⟩ : St) = _
      unfold bytN
      rw [if_pos h1, hl]
      rfl
    rw [e]
    refine ⟨?_, rfl, ⟨by show (1 : Nat) < 256; decide, hz, hz, hz, q2⟩⟩
    have hF := list2 (F := F) (by omega)
    rw [hw, q1] at hF
    exact hF.symm
  · rw [stepF, hk] at h
    obtain ⟨a, b⟩ := thenF_none (show thenF (numF F 1) (overF F (nextK F 1)) = none from h)
    have hw : fld F 0 = ⟨#[108, 97, 110, 101]⟩ := by have := kindN_is hk (by decide); exact (Option.some.inj this).symm
    obtain ⟨h1, h2, h3, h4⟩ := numF_fine a
    rw [h2] at b
    have h5 := over_none b
    have e : stepS F = ⟨2, numN F 1, 0, 0, []⟩ := by rw [stepS, hk]; rfl
    rw [e]
    refine ⟨?_, rfl, ⟨by show (_ : Nat) < 256; simp, h4, hz, hz, byt_nil⟩⟩
    have hF := list2 (F := F) (by omega)
    rw [hw, h3] at hF
    exact hF.symm
  · rw [stepF, hk] at h
    have hw : fld F 0 = ⟨#[116, 117, 114, 110]⟩ := by have := kindN_is hk (by decide); exact (Option.some.inj this).symm
    have h5 := over_none (show overF F 1 = none from h)
    have e : stepS F = ⟨3, 0, 0, 0, []⟩ := by rw [stepS, hk]; rfl
    rw [e]
    refine ⟨?_, rfl, ⟨by show (_ : Nat) < 256; simp, hz, hz, hz, byt_nil⟩⟩
    have hF := list1 (F := F) (by omega)
    rw [hw] at hF
    exact hF.symm
  · rw [stepF, hk] at h
    have hw : fld F 0 = ⟨#[116, 105, 99, 107]⟩ := by have := kindN_is hk (by decide); exact (Option.some.inj this).symm
    have h5 := over_none (show overF F 1 = none from h)
    have e : stepS F = ⟨4, 0, 0, 0, []⟩ := by rw [stepS, hk]; rfl
    rw [e]
    refine ⟨?_, rfl, ⟨by show (_ : Nat) < 256; simp, hz, hz, hz, byt_nil⟩⟩
    have hF := list1 (F := F) (by omega)
    rw [hw] at hF
    exact hF.symm
  · rw [stepF, hk] at h
    obtain ⟨a, b⟩ := thenF_none (show thenF (twoF F 1) (overF F (twoK F 1)) = none from h)
    have hw : fld F 0 = ⟨#[100, 111, 119, 110]⟩ := by have := kindN_is hk (by decide); exact (Option.some.inj this).symm
    obtain ⟨h1, h2, h3, h4, h6, h7⟩ := two_none a
    rw [h2] at b
    have h5 := over_none b
    have e : stepS F = ⟨5, 0, twoS F 1, twoP F 1, []⟩ := by rw [stepS, hk]; rfl
    rw [e]
    refine ⟨?_, rfl, ⟨by show (_ : Nat) < 256; simp, hz, h6, h7, byt_nil⟩⟩
    have hF := list3 (F := F) (by omega)
    rw [hw, h3, h4] at hF
    exact hF.symm
  · rw [stepF, hk] at h
    obtain ⟨a, b⟩ := thenF_none (show thenF (twoF F 1) (overF F (twoK F 1)) = none from h)
    have hw : fld F 0 = ⟨#[117, 112]⟩ := by have := kindN_is hk (by decide); exact (Option.some.inj this).symm
    obtain ⟨h1, h2, h3, h4, h6, h7⟩ := two_none a
    rw [h2] at b
    have h5 := over_none b
    have e : stepS F = ⟨6, 0, twoS F 1, twoP F 1, []⟩ := by rw [stepS, hk]; rfl
    rw [e]
    refine ⟨?_, rfl, ⟨by show (_ : Nat) < 256; simp, hz, h6, h7, byt_nil⟩⟩
    have hF := list3 (F := F) (by omega)
    rw [hw, h3, h4] at hF
    exact hF.symm
  · rw [stepF, hk] at h
    obtain ⟨a, b⟩ := thenF_none (show thenF (wayF F 1) (overF F (wayK F 1)) = none from h)
    have hw : fld F 0 = ⟨#[108, 111, 115, 101]⟩ := by have := kindN_is hk (by decide); exact (Option.some.inj this).symm
    have hok : wayOk F 1 := by
      refine Classical.byContradiction fun q => ?_
      unfold wayF at a
      rw [if_neg q] at a
      by_cases z : 1 < F.length
      · rw [if_pos z] at a; cases a
      · rw [if_neg z] at a; cases a
    rw [show wayF F 1 = twoF F 2 from if_pos hok] at a
    rw [show wayK F 1 = twoK F 2 from if_pos hok] at b
    obtain ⟨h1, h2, h3, h4, h6, h7⟩ := two_none a
    rw [h2] at b
    have h5 := over_none b
    have hF := list4 (F := F) (by omega)
    rcases hok.2 with hu | hd
    · have e : stepS F = ⟨8, 0, twoS F 2, twoP F 2, []⟩ := by
        rw [stepS, hk]
        show (⟨wayD 7 F 1, 0, wayS F 1, wayP F 1, []⟩ : St) = _
        rw [show wayD 7 F 1 = 8 from if_pos ⟨by omega, hu⟩, show wayS F 1 = twoS F 2 from if_pos hok, show wayP F 1 = twoP F 2 from if_pos hok]
      rw [e]
      refine ⟨?_, rfl, ⟨by show (_ : Nat) < 256; simp, hz, h6, h7, byt_nil⟩⟩
      rw [hw, hu, h3, h4] at hF
      exact hF.symm
    · have e : stepS F = ⟨7, 0, twoS F 2, twoP F 2, []⟩ := by
        rw [stepS, hk]
        show (⟨wayD 7 F 1, 0, wayS F 1, wayP F 1, []⟩ : St) = _
        rw [show wayD 7 F 1 = 7 from if_neg (fun q => by rw [hd] at q; exact absurd q.2 (by decide)), show wayS F 1 = twoS F 2 from if_pos hok, show wayP F 1 = twoP F 2 from if_pos hok]
      rw [e]
      refine ⟨?_, rfl, ⟨by show (_ : Nat) < 256; simp, hz, h6, h7, byt_nil⟩⟩
      rw [hw, hd, h3, h4] at hF
      exact hF.symm
  · rw [stepF, hk] at h
    obtain ⟨a, b⟩ := thenF_none (show thenF (wayF F 1) (overF F (wayK F 1)) = none from h)
    have hw : fld F 0 = ⟨#[116, 119, 105, 99, 101]⟩ := by have := kindN_is hk (by decide); exact (Option.some.inj this).symm
    have hok : wayOk F 1 := by
      refine Classical.byContradiction fun q => ?_
      unfold wayF at a
      rw [if_neg q] at a
      by_cases z : 1 < F.length
      · rw [if_pos z] at a; cases a
      · rw [if_neg z] at a; cases a
    rw [show wayF F 1 = twoF F 2 from if_pos hok] at a
    rw [show wayK F 1 = twoK F 2 from if_pos hok] at b
    obtain ⟨h1, h2, h3, h4, h6, h7⟩ := two_none a
    rw [h2] at b
    have h5 := over_none b
    have hF := list4 (F := F) (by omega)
    rcases hok.2 with hu | hd
    · have e : stepS F = ⟨10, 0, twoS F 2, twoP F 2, []⟩ := by
        rw [stepS, hk]
        show (⟨wayD 9 F 1, 0, wayS F 1, wayP F 1, []⟩ : St) = _
        rw [show wayD 9 F 1 = 10 from if_pos ⟨by omega, hu⟩, show wayS F 1 = twoS F 2 from if_pos hok, show wayP F 1 = twoP F 2 from if_pos hok]
      rw [e]
      refine ⟨?_, rfl, ⟨by show (_ : Nat) < 256; simp, hz, h6, h7, byt_nil⟩⟩
      rw [hw, hu, h3, h4] at hF
      exact hF.symm
    · have e : stepS F = ⟨9, 0, twoS F 2, twoP F 2, []⟩ := by
        rw [stepS, hk]
        show (⟨wayD 9 F 1, 0, wayS F 1, wayP F 1, []⟩ : St) = _
        rw [show wayD 9 F 1 = 9 from if_neg (fun q => by rw [hd] at q; exact absurd q.2 (by decide)), show wayS F 1 = twoS F 2 from if_pos hok, show wayP F 1 = twoP F 2 from if_pos hok]
      rw [e]
      refine ⟨?_, rfl, ⟨by show (_ : Nat) < 256; simp, hz, h6, h7, byt_nil⟩⟩
      rw [hw, hd, h3, h4] at hF
      exact hF.symm
theorem stepF_code {F : List ByteArray} {q : Nat × Int} (h : stepF F = some q) : q.2 ≠ 0 := by
  have hover : ∀ {k : Nat}, overF F k = some q → q.2 ≠ 0 := fun {k} h => by have := over_code h; omega
  have hnum : ∀ {k : Nat}, numF F k = some q → q.2 ≠ 0 := fun {k} h => by
    unfold numF at h
    split at h
    · split at h
      · cases h
      · simp at h; subst h; simp
    · simp at h; subst h; simp
  have htwo : ∀ {k : Nat}, twoF F k = some q → q.2 ≠ 0 := fun {k} h => by
    unfold twoF at h
    split at h
    · exact hnum h
    · exact hnum h
  have hbyt : ∀ {k : Nat}, bytF F k = some q → q.2 ≠ 0 := fun {k} h => by
    unfold bytF at h
    split at h
    · split at h
      · cases h
      · simp at h; subst h; simp
    · simp at h; subst h; simp
  have hway : ∀ {k : Nat}, wayF F k = some q → q.2 ≠ 0 := fun {k} h => by
    unfold wayF at h
    split at h
    · exact htwo h
    · split at h
      · simp at h; subst h; simp
      · simp at h; subst h; simp
  have hthen : ∀ {f : Flt} {k : Nat}, (f = some q → q.2 ≠ 0) → thenF f (overF F k) = some q → q.2 ≠ 0 := fun {f k} hf h => by
    unfold thenF at h
    split at h
    · exact hf h
    · exact hover h
  rw [stepF] at h
  split at h
  · simp at h; subst h; simp
  · exact hthen hbyt h
  · exact hthen hnum h
  · exact hover h
  · exact hover h
  · exact hthen htwo h
  · exact hthen htwo h
  · exact hthen hway h
/-- What is printed reads as it was. -/
theorem line_read {s : St} (hi : StI s) (h : lineE s = 0) : readC (lineX s) = 0 ∧ readL (lineX s) = s := by
  have hm : mayS s = true := by
    cases hm : mayS s with
    | true => rfl
    | false => rw [(lineE_bad hm).1] at h; cases h
  have hx : lineX s = lineT s := if_pos h
  have hsz : ¬ 4194304 < (lineT s).size := fun q => by rw [(lineE_over hm q).1] at h; cases h
  have hk := may_kind hm
  have hne : lineL s ≠ [] := by unfold lineL; exact List.append_ne_nil_of_left_ne_nil (wordsL_ne hk) _
  have hf : fieldsB (lineT s) = lineL s := fields_join hne (lineL_blank hi.2.2.2.2)
  obtain ⟨a, b⟩ := reads_back hi hm
  rw [hx]
  constructor
  · unfold readC; rw [if_neg hsz, hf, a]; rfl
  · unfold readL readF; rw [if_neg hsz, hf, a]; exact b
/-- What is read prints as it was. -/
theorem read_line {t : ByteArray} (h : readC t = 0) : lineE (readL t) = 0 ∧ lineX (readL t) = t ∧ StI (readL t) := by
  have hsz : ¬ 4194304 < t.size := fun q => by unfold readC at h; rw [if_pos q] at h; cases h
  have hf : stepF (fieldsB t) = none := by
    cases hs : stepF (fieldsB t) with
    | none => rfl
    | some q =>
      unfold readC at h
      rw [if_neg hsz, hs] at h
      exact absurd h (stepF_code hs)
  obtain ⟨a, b, c⟩ := prints_back (fieldsB_pos t) hf
  have e : readL t = stepS (fieldsB t) := by unfold readL readF; rw [if_neg hsz, hf]; rfl
  rw [e]
  have ht : lineT (stepS (fieldsB t)) = t := by unfold lineT; rw [a, join_fields]
  have hq : ¬ ((stepS (fieldsB t)).kd = 1 ∧ 2097152 < (stepS (fieldsB t)).by'.length) := fun q => by
    have h1 := lineT_one q.1
    rw [ht, if_neg (fun z => by rw [z] at q; simp at q)] at h1
    omega
  have hg := lineE_good b hq (by rw [ht]; exact hsz)
  exact ⟨hg.1, by rw [hg.2, ht], c⟩
theorem StI.zero : StI St.zero := ⟨by decide, by decide, by decide, by decide, byt_nil⟩
theorem readL_sti (t : ByteArray) : StI (readL t) := by
  by_cases h : readC t = 0
  · exact (read_line h).2.2
  · have e : readL t = St.zero := by
      unfold readC at h
      unfold readL
      split
      · rfl
      · rename_i hs
        rw [if_neg hs] at h
        unfold readF
        cases hq : stepF (fieldsB t) with
        | none => rw [hq] at h; exact absurd rfl h
        | some q => rfl
    rw [e]
    exact StI.zero
end Sc
end Go.Proofs.YtbpgpjibljgiiaaGreatDoor
