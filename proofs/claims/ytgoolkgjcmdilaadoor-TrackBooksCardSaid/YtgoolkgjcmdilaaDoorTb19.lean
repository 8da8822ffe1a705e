/-
  Tb, part 19 of 36: the texts KbA KbB.
-/
import Derived.Test.YtgoolkgjcmdilaaDoorTb15
import Derived.Test.YtgoolkgjcmdilaaDoorTb16
import Derived.Test.YtgoolkgjcmdilaaDoorTb18
section
namespace Go.Proofs.YtgoolkgjcmdilaaDoor
open Go.RowKit
set_option linter.unusedVariables false
set_option linter.unusedSimpArgs false
section
variable {α β : Type}
/-- One more in a rising list. -/
def insK (key : α → Int) (a : α) : List α → List α
  | [] => [a]
  | x :: l => if key a < key x then a :: x :: l else x :: insK key a l
theorem insK_map (key : α → Int) (key' : β → Int) (g : α → β) (hg : ∀ x, key' (g x) = key x) (a : α) : ∀ l : List α, insK key' (g a) (l.map g) = (insK key a l).map g
  | [] => rfl
  | x :: l => by
    unfold insK
    rw [List.map_cons]
    dsimp only
    rw [hg, hg]
    split
    · rfl
    · rw [List.map_cons, insK_map key key' g hg a l]
theorem insK_mem {key : α → Int} {a x : α} : ∀ {l : List α}, x ∈ insK key a l ↔ x = a ∨ x ∈ l
  | [] => by simp [insK]
  | y :: l => by
    unfold insK
    split
    · simp
    · rw [List.mem_cons, insK_mem, List.mem_cons]
      constructor
      · rintro (h | h | h)
        · exact .inr (.inl h)
        · exact .inl h
        · exact .inr (.inr h)
      · rintro (h | h | h)
        · exact .inr (.inl h)
        · exact .inl h
        · exact .inr (.inr h)
theorem insK_up {key : α → Int} {a : α} : ∀ {l : List α}, l.Pairwise (fun x y => key x < key y) → (∀ x ∈ l, key x ≠ key a) → (insK key a l).Pairwise (fun x y => key x < key y)
  | [], _, _ => by simp [insK]
  | y :: l, h, hn => by
    obtain ⟨h1, h2⟩ := List.pairwise_cons.1 h
    unfold insK
    split
    · rename_i hlt
      refine List.pairwise_cons.2 ⟨fun x hx => ?_, h⟩
      rcases List.mem_cons.1 hx with rfl | hx
      · exact hlt
      · have := h1 x hx; omega
    · rename_i hlt
      refine List.pairwise_cons.2 ⟨fun x hx => ?_, insK_up h2 (fun x hx => hn x (List.mem_cons_of_mem _ hx))⟩
      rcases insK_mem.1 hx with rfl | hx
      · have := hn y (by simp); omega
      · exact h1 x hx
end
theorem insAt_insK {π : Type} {Ps : List (Int × π)} (hu : Up Ps) {id : Int} (x : π) (hn : hasId Ps id = false) : insAt Ps id x = insK (·.1) (id, x) Ps := by
  induction Ps with
  | nil => rfl
  | cons q r ih =>
    obtain ⟨h1, h2⟩ := List.pairwise_cons.1 hu
    have hq : q.1 ≠ id := fun h => by unfold hasId at hn; simp [h] at hn
    have hr : hasId r id = false := by unfold hasId at hn ⊢; simp at hn ⊢; exact fun a b hb => hn.2 a b hb
    unfold insK insAt
    rw [rank_cons]
    by_cases hlt : id < q.1
    · rw [if_pos (show (id, x).1 < q.1 from hlt), rank_zero (fun p hp => by have := h1 p hp; omega), if_neg (by omega)]
      rfl
    · rw [if_neg (show ¬ (id, x).1 < q.1 from hlt), if_pos (by omega), ← ih h2 hr]
      rfl
theorem wst_done (f : Int) : ∀ (l acc : List Int), l.foldl (wst f) (acc, true) = (acc ++ l, true)
  | [], acc => by simp
  | x :: l, acc => by
    rw [List.foldl_cons, show wst f (acc, true) x = (acc ++ [x], true) from by unfold wst; rw [if_neg (by simp)], wst_done f l]
    simp
theorem wst_ins (f : Int) : ∀ (l acc : List Int), (if (l.foldl (wst f) (acc, false)).2 = true then (l.foldl (wst f) (acc, false)).1 else (l.foldl (wst f) (acc, false)).1 ++ [f]) = acc ++ insK (fun x => x) f l
  | [], acc => by simp [insK]
  | x :: l, acc => by
    rw [List.foldl_cons]
    unfold insK
    by_cases hx : f < x
    · rw [show wst f (acc, false) x = (acc ++ [f] ++ [x], true) from by unfold wst; rw [if_pos ⟨rfl, hx⟩], wst_done, if_pos hx]
      simp
    · rw [show wst f (acc, false) x = (acc ++ [x], false) from by unfold wst; rw [if_neg (fun h => hx h.2)], wst_ins f l, if_neg hx]
      simp
theorem withL_ins (l : List Int) (f : Int) : withL l f = insK (fun x => x) f l := by
  have := wst_ins f l []
  rw [List.nil_append] at this
  exact this
theorem vst_done (o : VO) : ∀ (l acc : List VO), l.foldl (vst o) (acc, true) = (acc ++ l, true)
  | [], acc => by simp
  | x :: l, acc => by
    rw [List.foldl_cons, show vst o (acc, true) x = (acc ++ [x], true) from by unfold vst; rw [if_neg (by simp)], vst_done o l]
    simp
theorem vst_ins (o : VO) : ∀ (l acc : List VO), (if (l.foldl (vst o) (acc, false)).2 = true then (l.foldl (vst o) (acc, false)).1 else (l.foldl (vst o) (acc, false)).1 ++ [o]) = acc ++ insK (·.id) o l
  | [], acc => by simp [insK]
  | x :: l, acc => by
    rw [List.foldl_cons]
    unfold insK
    by_cases hx : o.id < x.id
    · rw [show vst o (acc, false) x = (acc ++ [o] ++ [x], true) from by unfold vst; rw [if_pos ⟨rfl, hx⟩], vst_done, if_pos hx]
      simp
    · rw [show vst o (acc, false) x = (acc ++ [x], false) from by unfold vst; rw [if_neg (fun h => hx h.2)], vst_ins o l, if_neg hx]
      simp
theorem putV_ins (l : List VO) (o : VO) : putV l o = insK (·.id) o l := by
  have := vst_ins o l []
  rw [List.nil_append] at this
  exact this
/-- Rising lists of the same numbers are one. -/
theorem upI_ext : ∀ {l m : List Int}, UpI l → UpI m → (∀ x, x ∈ l ↔ x ∈ m) → l = m
  | [], [], _, _, _ => rfl
  | [], y :: m, _, _, h => by have := (h y).2 (by simp); simp at this
  | x :: l, [], _, _, h => by have := (h x).1 (by simp); simp at this
  | x :: l, y :: m, hl, hm, h => by
    obtain ⟨l1, l2⟩ := List.pairwise_cons.1 hl
    obtain ⟨m1, m2⟩ := List.pairwise_cons.1 hm
    have hxy : x = y := by
      rcases List.mem_cons.1 ((h x).1 (by simp)) with q | q
      · exact q
      · rcases List.mem_cons.1 ((h y).2 (by simp)) with r | r
        · exact r.symm
        · have := m1 x q; have := l1 y r; omega
    subst hxy
    rw [upI_ext l2 m2 fun z => ?_]
    constructor
    · intro hz
      rcases List.mem_cons.1 ((h z).1 (List.mem_cons_of_mem _ hz)) with q | q
      · have := l1 z hz; omega
      · exact q
    · intro hz
      rcases List.mem_cons.1 ((h z).2 (List.mem_cons_of_mem _ hz)) with q | q
      · have := m1 z hz; omega
      · exact q
theorem upI_with {l : List Int} {f : Int} (h : UpI l) (hf : f ∉ l) : UpI (withL l f) := by
  rw [withL_ins]
  exact insK_up h fun x hx e => hf (e ▸ hx)
theorem mem_with {l : List Int} {f x : Int} : x ∈ withL l f ↔ x = f ∨ x ∈ l := by rw [withL_ins]; exact insK_mem
theorem upI_filter {l : List Int} (p : Int → Bool) (h : UpI l) : UpI (l.filter p) := List.Pairwise.sublist List.filter_sublist h
theorem posFrom_none (id : Int) : ∀ (l : List VO) (k : Int), (∀ o ∈ l, o.id ≠ id) → posFrom id l k = -1
  | [], k, _ => rfl
  | x :: l, k, h => by
    unfold posFrom
    rw [if_neg (h x (by simp)), posFrom_none id l _ fun o ho => h o (List.mem_cons_of_mem _ ho)]
theorem posV_none {V : List VO} {id : Int} (h : ∀ o ∈ V, o.id ≠ id) : posV V id = -1 := posFrom_none id V 0 h
theorem posFrom_at (id : Int) : ∀ (l : List VO) (k : Int) (r : Nat) (o : VO), l.Pairwise (fun x y => x.id < y.id) → l[r]? = some o → o.id = id → posFrom id l k = k + r
  | [], _, _, _, _, h, _ => by simp at h
  | x :: l, k, 0, o, h, hr, he => by
    simp at hr
    subst hr
    unfold posFrom
    rw [if_pos he]
    simp
  | x :: l, k, r + 1, o, h, hr, he => by
    obtain ⟨h1, h2⟩ := List.pairwise_cons.1 h
    simp at hr
    unfold posFrom
    rw [if_neg (fun e => by have := h1 o (List.mem_of_getElem? hr); omega), posFrom_at id l _ r o h2 hr he]
    omega
theorem posV_at {V : List VO} {id : Int} {r : Nat} {o : VO} (h : V.Pairwise (fun x y => x.id < y.id)) (hr : V[r]? = some o) (he : o.id = id) : posV V id = r := by
  have := posFrom_at id V 0 r o h hr he
  unfold posV
  omega
/-- The numbers of the fences whose place is set. -/
def idsOf (Fs : List (Int × Int)) (B : List Bool) : List Int := (Fs.filter fun p => B.getD p.2.toNat false).map (·.1)
theorem idsOf_up {Fs : List (Int × Int)} (h : Up Fs) (B : List Bool) : UpI (idsOf Fs B) := by
  unfold UpI idsOf
  rw [List.pairwise_map]
  exact List.Pairwise.sublist List.filter_sublist h
theorem idsOf_mem {Fs : List (Int × Int)} {B : List Bool} {f : Int} : f ∈ idsOf Fs B ↔ ∃ p, (f, p) ∈ Fs ∧ B.getD p.toNat false = true := by
  unfold idsOf
  rw [List.mem_map]
  constructor
  · rintro ⟨⟨a, p⟩, h, rfl⟩
    rw [List.mem_filter] at h
    exact ⟨p, h.1, by simpa using h.2⟩
  · rintro ⟨p, h1, h2⟩
    exact ⟨(f, p), by rw [List.mem_filter]; exact ⟨h1, by simpa using h2⟩, rfl⟩
theorem idsOf_len (Fs : List (Int × Int)) (B : List Bool) : (idsOf Fs B).length ≤ Fs.length := by
  unfold idsOf
  rw [List.length_map]
  exact List.length_filter_le _ _
theorem up_same {π : Type} {Fs : List (Int × π)} (h : Up Fs) {f : Int} {p q : π} (h1 : (f, p) ∈ Fs) (h2 : (f, q) ∈ Fs) : p = q := by
  obtain ⟨i, hi⟩ := List.mem_iff_getElem?.1 h1
  obtain ⟨j, hj⟩ := List.mem_iff_getElem?.1 h2
  rcases Nat.lt_trichotomy i j with h3 | h3 | h3
  · have := List.pairwise_iff_getElem.1 h i j (List.getElem?_eq_some_iff.1 hi).1 (List.getElem?_eq_some_iff.1 hj).1 h3
    rw [(List.getElem?_eq_some_iff.1 hi).2, (List.getElem?_eq_some_iff.1 hj).2] at this
    dsimp only at this
    omega
  · subst h3
    rw [hi] at hj
    cases hj
    rfl
  · have := List.pairwise_iff_getElem.1 h j i (List.getElem?_eq_some_iff.1 hj).1 (List.getElem?_eq_some_iff.1 hi).1 h3
    rw [(List.getElem?_eq_some_iff.1 hi).2, (List.getElem?_eq_some_iff.1 hj).2] at this
    dsimp only at this
    omega
/-- No two fences at one place. -/
def Apart (Fs : List (Int × Int)) : Prop := ∀ f g p, (f, p) ∈ Fs → (g, p) ∈ Fs → f = g
theorem getD_set (B : List Bool) (i j : Nat) (c : Bool) (hi : i < B.length) : (B.set i c).getD j false = if j = i then c else B.getD j false := by
  simp only [List.getD_eq_getElem?_getD, List.getElem?_set]
  by_cases h : i = j
  · subst h; rw [if_pos rfl, if_pos hi, if_pos rfl]; rfl
  · rw [if_neg h, if_neg (fun e => h e.symm)]
/-- A fence more in the set. -/
theorem idsOf_add {Fs : List (Int × Int)} {B : List Bool} {f : Int} {i : Nat} (h : Up Fs) (ha : Apart Fs) (hpos : ∀ p ∈ Fs, 0 ≤ p.2) (hf : (f, (i : Int)) ∈ Fs) (hi : i < B.length) (hB : B.getD i false = false) : idsOf Fs (B.set i true) = withL (idsOf Fs B) f := by
  have hn : f ∉ idsOf Fs B := fun hm => by
    obtain ⟨p, h1, h2⟩ := idsOf_mem.1 hm
    have := up_same h hf h1
    subst this
    exact absurd (hB.symm.trans h2) (by decide)
  refine upI_ext (idsOf_up h _) (upI_with (idsOf_up h _) hn) fun x => ?_
  rw [idsOf_mem, mem_with, idsOf_mem]
  constructor
  · rintro ⟨p, h1, h2⟩
    rw [getD_set _ _ _ _ hi] at h2
    split at h2
    · rename_i he
      have := hpos _ h1
      obtain rfl : p = (i : Int) := by dsimp only at this; omega
      exact .inl (ha _ _ _ h1 hf)
    · exact .inr ⟨p, h1, h2⟩
  · rintro (rfl | ⟨p, h1, h2⟩)
    · exact ⟨i, hf, by rw [getD_set _ _ _ _ hi, if_pos (by simp)]⟩
    · exact ⟨p, h1, by rw [getD_set _ _ _ _ hi]; split <;> first | rfl | exact h2⟩
/-- A fence less in the set. -/
theorem idsOf_del {Fs : List (Int × Int)} {B : List Bool} {f : Int} {i : Nat} (h : Up Fs) (ha : Apart Fs) (hpos : ∀ p ∈ Fs, 0 ≤ p.2) (hf : (f, (i : Int)) ∈ Fs) (hi : i < B.length) : idsOf Fs (B.set i false) = (idsOf Fs B).filter (fun x => decide (x ≠ f)) := by
  refine upI_ext (idsOf_up h _) (upI_filter _ (idsOf_up h _)) fun x => ?_
  rw [idsOf_mem, List.mem_filter, idsOf_mem]
  constructor
  · rintro ⟨p, h1, h2⟩
    rw [getD_set _ _ _ _ hi] at h2
    split at h2
    · cases h2
    · rename_i he
      refine ⟨⟨p, h1, h2⟩, ?_⟩
      simp only [ne_eq, decide_eq_true_eq]
      rintro rfl
      have := up_same h h1 hf
      subst this
      exact he (by simp)
  · rintro ⟨⟨p, h1, h2⟩, h3⟩
    refine ⟨p, h1, ?_⟩
    rw [getD_set _ _ _ _ hi, if_neg, h2]
    intro he
    have := hpos _ h1
    obtain rfl : p = (i : Int) := by dsimp only at this; omega
    have := ha _ _ _ h1 hf
    subst this
    simp at h3
/-- A fence more in the book, at a place that no set has. -/
theorem idsOf_ins {Fs : List (Int × Int)} {B : List Bool} {f p : Int} (hB : B.getD p.toNat false = false) : idsOf (insK (·.1) (f, p) Fs) B = idsOf Fs B := by
  unfold idsOf
  congr 1
  induction Fs with
  | nil => unfold insK; rw [List.filter_cons, if_neg (by simpa using hB)]
  | cons q l ih =>
    unfold insK
    split
    · rw [List.filter_cons, if_neg (by simpa using hB)]
    · rw [List.filter_cons, List.filter_cons, ih]
/-- A fence less in the book. -/
theorem mem_erase_up {π : Type} {Fs : List (Int × π)} (h : Up Fs) {r : Nat} {f : Int} {p : π} (hr : Fs[r]? = some (f, p)) (x : Int × π) : x ∈ Fs.eraseIdx r ↔ x ∈ Fs ∧ x.1 ≠ f := by
  constructor
  · intro hx
    refine ⟨List.mem_of_mem_eraseIdx hx, fun e => ?_⟩
    obtain ⟨j, hj⟩ := List.mem_iff_getElem?.1 hx
    rw [List.getElem?_eraseIdx] at hj
    obtain ⟨x1, x2⟩ := x
    dsimp only at e
    subst e
    have hne : ∃ i, i ≠ r ∧ Fs[i]? = some (x1, x2) := by
      split at hj
      · exact ⟨j, by omega, hj⟩
      · exact ⟨j + 1, by omega, hj⟩
    obtain ⟨i, hi, hx'⟩ := hne
    have hri := (List.getElem?_eq_some_iff.1 hr)
    have hii := (List.getElem?_eq_some_iff.1 hx')
    rcases Nat.lt_or_gt_of_ne hi with h3 | h3
    · have := List.pairwise_iff_getElem.1 h i r hii.1 hri.1 h3
      rw [hii.2, hri.2] at this
      dsimp only at this
      omega
    · have := List.pairwise_iff_getElem.1 h r i hri.1 hii.1 h3
      rw [hii.2, hri.2] at this
      dsimp only at this
      omega
  · rintro ⟨hx, hne⟩
    obtain ⟨j, hj⟩ := List.mem_iff_getElem?.1 hx
    refine List.mem_iff_getElem?.2 ?_
    rcases Nat.lt_trichotomy j r with h3 | h3 | h3
    · exact ⟨j, by rw [List.getElem?_eraseIdx, if_pos h3, hj]⟩
    · subst h3
      rw [hr] at hj
      cases hj
      exact absurd rfl hne
    · exact ⟨j - 1, by rw [List.getElem?_eraseIdx, if_neg (by omega), show j - 1 + 1 = j by omega, hj]⟩
theorem idsOf_drop {Fs : List (Int × Int)} {B : List Bool} {f : Int} {i r : Nat} (h : Up Fs) (ha : Apart Fs) (hpos : ∀ p ∈ Fs, 0 ≤ p.2) (hr : Fs[r]? = some (f, (i : Int))) (hi : i < B.length) : idsOf (Fs.eraseIdx r) (B.set i false) = (idsOf Fs B).filter (fun x => decide (x ≠ f)) := by
  rw [← idsOf_del h ha hpos (List.mem_of_getElem? hr) hi]
  refine upI_ext (idsOf_up (up_erase h r) _) (idsOf_up h _) fun x => ?_
  rw [idsOf_mem, idsOf_mem]
  constructor
  · rintro ⟨p, h1, h2⟩
    exact ⟨p, ((mem_erase_up h hr _).1 h1).1, h2⟩
  · rintro ⟨p, h1, h2⟩
    refine ⟨p, (mem_erase_up h hr _).2 ⟨h1, ?_⟩, h2⟩
    rintro rfl
    have := up_same h h1 (List.mem_of_getElem? hr)
    subst this
    rw [getD_set _ _ _ _ hi, if_pos (by simp)] at h2
    cases h2
theorem places_nodup {Fs : List (Int × Int)} (h : Up Fs) (ha : Apart Fs) : (Fs.map (·.2)).Nodup := by
  unfold List.Nodup
  rw [List.pairwise_map]
  refine List.pairwise_iff_getElem.2 fun i j hi hj hij e => ?_
  have h1 := List.pairwise_iff_getElem.1 h i j hi hj hij
  have m1 : (Fs[i].1, Fs[i].2) ∈ Fs := List.getElem_mem hi
  have m2 : (Fs[j].1, Fs[i].2) ∈ Fs := by rw [e]; exact List.getElem_mem hj
  have := ha _ _ _ m1 m2
  omega
/-- The places that are taken are the fences'. -/
def Used (Fs : List (Int × Int)) (B : List Bool) : Prop := ∀ i : Nat, B.getD i false = true ↔ ∃ f, (f, (i : Int)) ∈ Fs
theorem free_iff {Fs : List (Int × Int)} {B : List Bool} {a : Int} (h : Up Fs) (ha : Apart Fs) (hu : Used Fs B) (hpos : ∀ p ∈ Fs, 0 ≤ p.2 ∧ p.2 < (B.length : Int)) (hf : FirstAt B 0 false a) : a < 0 ↔ (B.length : Int) ≤ (Fs.length : Int) := by
  have hnd := places_nodup h ha
  have hR : ((List.range B.length).map (fun i : Nat => (i : Int))).Nodup := by
    unfold List.Nodup
    rw [List.pairwise_map]
    exact List.Pairwise.imp (fun h e => h (by omega)) List.nodup_range
  rcases hf with ⟨i, rfl, _, hi, hb, _⟩ | ⟨rfl, hall⟩
  · constructor
    · intro h; omega
    · intro hle
      exfalso
      have h1 : ((i : Int) :: Fs.map (·.2)).length ≤ ((List.range B.length).map (fun i : Nat => (i : Int))).length := by
        refine List.Nodup.length_le_of_subset (List.nodup_cons.2 ⟨fun hm => ?_, hnd⟩) fun x hx => ?_
        · obtain ⟨⟨f, p⟩, hq, hp⟩ := List.mem_map.1 hm
          dsimp only at hp
          subst hp
          have := (hu i).2 ⟨f, hq⟩
          rw [hb] at this
          cases this
        · rw [List.mem_map]
          rcases List.mem_cons.1 hx with rfl | hx
          · exact ⟨i, List.mem_range.2 hi, rfl⟩
          · obtain ⟨q, hq, rfl⟩ := List.mem_map.1 hx
            have := hpos q hq
            exact ⟨q.2.toNat, List.mem_range.2 (by omega), by omega⟩
      simp at h1
      omega
  · constructor
    · intro _
      have h1 : ((List.range B.length).map (fun i : Nat => (i : Int))).length ≤ (Fs.map (·.2)).length := by
        refine List.Nodup.length_le_of_subset hR fun x hx => ?_
        obtain ⟨i, hi, rfl⟩ := List.mem_map.1 hx
        have hb := hall i (Nat.zero_le _) (List.mem_range.1 hi)
        obtain ⟨f, hf⟩ := (hu i).1 (by cases hB : B.getD i false <;> simp_all)
        exact List.mem_map.2 ⟨_, hf, rfl⟩
      simp at h1
      omega
    · intro _; omega
end Go.Proofs.YtgoolkgjcmdilaaDoor
end
section
namespace Go.Proofs.YtgoolkgjcmdilaaDoor
open Go.RowKit
set_option linter.unusedVariables false
set_option linter.unusedSimpArgs false
attribute [local go_sem] Oper.semAt_some
set_option maxRecDepth 100000 in
theorem leave_yes (w : World) (k bO bN bP : Nat) (v u : Value) (Os : List (Int × Nat)) (Fs : List (Int × Int)) (rO rN id fe : Int) (x : Nat) (p : Int) (bB : Nat) (vB : Value) (B : List Bool) (ws : List Nat) (i1 i2 i3 i4 i5 : Int) (sp : Nat)
    (h : BkAt w k bO bN bP) (hO : TabO w bO v Os rO) (hN : TabN w bN u Fs rN) (hi : U32 id) (hf : U32 fe) (hx : Os[rank Os id]? = some (id, x)) (hp : Fs[rank Fs fe]? = some (fe, p)) (hX : ObAt w x bB i1 i2 i3 i4 i5 sp) (hB : BitsAt w bB vB B ws) :
    Calls Tryd.prog 124 #[.pointer (some ⟨k, 0, none⟩), .int .u32 id, .int .u32 fe] w fun e w' => e = .returned (.tuple #[.bool (hasB B p), .int .i64 0]) ∧ (∃ ws', BitsAt w' bB vB (delB B p) ws') ∧ Fr vB.ownBlock.toList w w' := by
  have HC := Lib.hid (both_yes w k bO bN bP v u Os Fs rO rN id fe x p h hO hN hi hf hx hp)
  have HH := Lib.hid (And.intro hX hB)
  clear h hO hN hi hf hx hp hX hB
  go_enter Tryd.func124, Tryd.ntmps124
  go_wp2_with fail
  (with_reducible refine (HC.out).mono ?_)
  rintro e w1 ⟨rfl, f1⟩
  have c0 := Blk.at (f1.blk HH.out.1 (by simp)) 0 (v := .pointer (some ⟨bB, 0, none⟩)) rfl
  have HF := Lib.hid f1
  clear f1
  go_wp2_with fail
  (with_reducible refine (bdel_any w1 bB vB B ws p (HH.out.2.grow HF.out)).mono ?_)
  rintro e w2 ⟨rfl, hb, f2⟩
  have HR := Lib.hid (And.intro hb f2)
  clear hb f2
  go_wp2_with fail
  refine bodyPost_ret (v := .tuple #[.bool (hasB B p), .int .i64 0]) (by simp [results, Tryd.results124, go_sem]) rfl ⟨rfl, HR.out.1, (HF.out.mono (T := vB.ownBlock.toList) (by simp)).trans HR.out.2 (fun s hs => .inl hs)⟩
set_option maxRecDepth 100000 in
theorem leave_lost (w : World) (k bO bN bP : Nat) (v u : Value) (Os : List (Int × Nat)) (Fs : List (Int × Int)) (rO rN id fe : Int)
    (h : BkAt w k bO bN bP) (hO : TabO w bO v Os rO) (hN : TabN w bN u Fs rN) (hi : U32 id) (hf : U32 fe) (hl : hasId Os id = false ∨ hasId Fs fe = false) :
    Calls Tryd.prog 124 #[.pointer (some ⟨k, 0, none⟩), .int .u32 id, .int .u32 fe] w fun e w' => e = .returned (.tuple #[.bool false, .int .i64 181]) ∧ Fr [] w w' := by
  have HC := Lib.hid (both_lost w k bO bN bP v u Os Fs rO rN id fe h hO hN hi hf hl)
  clear h hO hN hi hf hl
  go_enter Tryd.func124, Tryd.ntmps124
  go_wp2_with fail
  (with_reducible refine (HC.out).mono ?_)
  rintro e w1 ⟨rfl, f1⟩
  have HF := Lib.hid f1
  clear f1
  go_wp2_with fail
  refine bodyPost_ret (v := .tuple #[.bool false, .int .i64 181]) (by simp [results, Tryd.results124, go_sem]) rfl ⟨rfl, HF.out⟩
set_option maxRecDepth 100000 in
theorem forgetK_yes (w : World) (k bO bN bP : Nat) (v : Value) (Os : List (Int × Nat)) (rO id : Int) (x : Nat)
    (h : BkAt w k bO bN bP) (hO : TabO w bO v Os rO) (hi : U32 id) (hx : Os[rank Os id]? = some (id, x)) :
    Calls Tryd.prog 119 #[.pointer (some ⟨k, 0, none⟩), .int .u32 id] w fun e w' => e = .returned (.bool true) ∧ ∃ v', TabO w' bO v' (Os.eraseIdx (rank Os id)) rO ∧ v'.ownBlock = v.ownBlock ∧ Fr (bO :: v.ownBlock.toList) w w' := by
  have c0 := Blk.at h 0 (v := .pointer (some ⟨bO, 0, none⟩)) rfl
  have HH := Lib.hid (And.intro h (delO_yes w bO v Os rO id x hO hi hx))
  clear h hO hi hx
  go_enter Tryd.func119, Tryd.ntmps119
  go_wp2_with fail
  (with_reducible refine (there_yes _ k bO bN bP HH.out.1).mono ?_)
  rintro e w1 ⟨rfl, rfl⟩
  go_wp2_with fail
  (with_reducible refine (HH.out.2).mono ?_)
  rintro e w1 ⟨rfl, v', h1, h2, h3⟩
  have HR := Lib.hid (And.intro h1 (And.intro h2 h3))
  clear h1 h2 h3 c0
  go_wp2_with fail
  refine bodyPost_ret (v := .bool true) (by simp [results, Tryd.results119, go_sem]) rfl ⟨rfl, v', HR.out⟩
set_option maxRecDepth 100000 in
theorem forgetK_no (w : World) (k bO bN bP : Nat) (v : Value) (Os : List (Int × Nat)) (rO id : Int)
    (h : BkAt w k bO bN bP) (hO : TabO w bO v Os rO) (hi : U32 id) (hl : hasId Os id = false) :
    Calls Tryd.prog 119 #[.pointer (some ⟨k, 0, none⟩), .int .u32 id] w fun e w' => e = .returned (.bool false) ∧ Fr [] w w' := by
  have c0 := Blk.at h 0 (v := .pointer (some ⟨bO, 0, none⟩)) rfl
  have HH := Lib.hid (And.intro h (delO_no w bO v Os rO id hO hi hl))
  clear h hO hi hl
  go_enter Tryd.func119, Tryd.ntmps119
  go_wp2_with fail
  (with_reducible refine (there_yes _ k bO bN bP HH.out.1).mono ?_)
  rintro e w1 ⟨rfl, rfl⟩
  go_wp2_with fail
  (with_reducible refine (HH.out.2).mono ?_)
  rintro e w1 ⟨rfl, f1⟩
  have HF := Lib.hid f1
  clear f1 c0
  go_wp2_with fail
  refine bodyPost_ret (v := .bool false) (by simp [results, Tryd.results119, go_sem]) rfl ⟨rfl, HF.out⟩
set_option maxRecDepth 100000 in
theorem move_full (w : World) (k bO bN bP : Nat) (v u : Value) (Os : List (Int × Nat)) (Fs : List (Int × Int)) (rO : Int) (rN : Nat) (id num t px py : Int)
    (h : BkAt w k bO bN bP) (hO : TabO w bO v Os rO) (hN : TabN w bN u Fs rN) (hi : U32 id) (hh : hasId Os id = false) (hlen : ¬ (Os.length : Int) < rO) :
    Calls Tryd.prog 93 #[.pointer (some ⟨k, 0, none⟩), .int .u32 id, .int .u32 num, .int .u32 t, .agg #[.int .i32 px, .int .i32 py]] w fun e w' => e = .returned (.tuple #[.agg #[.int .i32 0, .int .i32 0], .bool false, .int .i64 5]) ∧ Fr [] w w' := by
  have F0 : Fr [] w ((w.alloc (.cells #[.int .i32 px, .int .i32 py] 98)).alloc (.cells #[.int .i32 0, .int .i32 0] 98)) := ((Fr.refl _ _).alloc _).alloc _
  have hA := (Blk.new w #[.int .i32 px, .int .i32 py] 98).alloc (.cells #[.int .i32 0, .int .i32 0] 98)
  have hR := Blk.new (w.alloc (.cells #[.int .i32 px, .int .i32 py] 98)) #[.int .i32 0, .int .i32 0] 98
  have c0 := Blk.at (h.grow F0) 0 (v := .pointer (some ⟨bO, 0, none⟩)) rfl
  have HQ := Lib.hid (And.intro hi (And.intro hh (And.intro hlen (And.intro F0 hO.low))))
  have HH := Lib.hid (And.intro (h.grow F0) (And.intro (hO.grow F0) (And.intro (hN.grow F0) (And.intro hA hR))))
  clear h hO hN hi hh hlen F0 hA hR
  go_enter Tryd.func93, Tryd.ntmps93
  go_wp2_with fail
  (with_reducible refine (there_yes _ k bO bN bP HH.out.1).mono ?_)
  rintro e w1 ⟨rfl, rfl⟩
  go_wp2_with fail
  obtain ⟨h, hO, hN, hA, hR⟩ := HH.out
  obtain ⟨hi, hh, hlen, F0, hlo⟩ := HQ.out
  clear HH HQ c0
  rw [show (w.alloc (.cells #[.int .i32 px, .int .i32 py] 98)).heap.size = w.heap.size + 1 by simp] at hR
  obtain ⟨w1, hw1⟩ : ∃ w1, (w.alloc (.cells #[.int .i32 px, .int .i32 py] 98)).alloc (.cells #[.int .i32 0, .int .i32 0] 98) = w1 := ⟨_, rfl⟩
  have g0 : w.heap.size ≤ w.heap.size + 1 := by omega
  have g00 : w.heap.size ≤ w.heap.size := Nat.le_refl _
  rw [hw1] at h hO hN hA hR F0 ⊢
  generalize w.heap.size + 1 = a1 at hR g0 ⊢
  obtain ⟨a0, ha0⟩ : ∃ a0, a0 = w.heap.size := ⟨_, rfl⟩
  rw [← ha0] at hA ⊢
  have HQ := Lib.hid (And.intro hi (And.intro hh (And.intro hlen (And.intro F0 (And.intro hlo g0)))))
  have HH := Lib.hid (And.intro h (And.intro hO (And.intro hN (And.intro hA hR))))
  clear h hO hN hA hR hi hh hlen F0 hlo g0 g00 hw1 ha0
  (with_reducible refine (getO_no w1 bO v Os rO id HH.out.2.1 HQ.out.1 HQ.out.2.1).mono ?_)
  rintro e w2 ⟨rfl, f2⟩
  have HF2 := Lib.hid f2
  clear f2
  go_wp2_with fail
  (with_reducible refine (room_any w2 k bO bN bP v Os rO (HH.out.1.grow HF2.out) (HH.out.2.1.grow HF2.out)).mono ?_)
  rintro e w3 ⟨rfl, f3⟩
  have hroom : decide ((Os.length : Int) < rO) = false := decide_eq_false (by have := HQ.out.2.2.1; omega)  --
  rw [hroom]
  have hf := HF2.out.trans f3 (by simp)
  have hR := hf.blk HH.out.2.2.2.2 (by simp)
  have hR0 := hR.at 0 (v := .int .i32 0) rfl
  have hR1 := hR.at 1 (v := .int .i32 0) rfl
  have hF0 := hR.free 0
  have hF1 := hR.free 1
  have HF := Lib.hid (And.intro hf hR)
  clear hf f3 HF2 hroom hR
  go_wp2_with fail
  clear hR0 hR1 hF0 hF1
  have hR5 : Blk ((w3.setCell ⟨a1, 0, none⟩ (.int .i32 0)).setCell ⟨a1, 1, none⟩ (.int .i32 0)) a1 #[.int .i32 0, .int .i32 0] 98 := by simpa using (HF.out.2.set 0 (.int .i32 0)).set 1 (.int .i32 0)
  have F5 : Fr [] w ((w3.setCell ⟨a1, 0, none⟩ (.int .i32 0)).setCell ⟨a1, 1, none⟩ (.int .i32 0)) := ((HQ.out.2.2.2.1.trans HF.out.1 (by simp)).setCell _ _ (.inr HQ.out.2.2.2.2.2)).setCell _ _ (.inr HQ.out.2.2.2.2.2)
  have e0 := hR5.at 0 (v := .int .i32 0) rfl
  have e1 := hR5.at 1 (v := .int .i32 0) rfl
  exact bodyPost_ret (v := .tuple #[.agg #[.int .i32 0, .int .i32 0], .bool false, .int .i64 5]) (by simp [results, Tryd.results93, go_sem, e0, e1]) rfl ⟨rfl, F5⟩
end Go.Proofs.YtgoolkgjcmdilaaDoor
end
