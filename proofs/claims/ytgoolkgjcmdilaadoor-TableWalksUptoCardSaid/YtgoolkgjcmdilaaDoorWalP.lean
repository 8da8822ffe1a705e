/-
  TableWalks in plain lists: what is told rises, is never more than was put in, and has all that stayed.
-/
import Derived.Test.YtgoolkgjcmdilaaDoorTabP
namespace Go.Proofs.YtgoolkgjcmdilaaDoor
set_option linter.unusedVariables false

section
variable {π : Type}
/-- Put, and Del, of a list of pairs. -/
def putL (Ps : List (Int × π)) (room : Int) (id : Int) (x : π) : List (Int × π) := if hasId Ps id then Ps.set (rank Ps id) (id, x) else if room ≤ (Ps.length : Int) then Ps else insAt Ps id x
def delL (Ps : List (Int × π)) (id : Int) : List (Int × π) := if hasId Ps id then Ps.eraseIdx (rank Ps id) else Ps
theorem has_iff {Ps : List (Int × π)} {a : Int} : hasId Ps a = true ↔ ∃ x, (a, x) ∈ Ps := by
  unfold hasId
  rw [List.any_eq_true]
  constructor
  · rintro ⟨p, hp, e⟩
    have e' : p.1 = a := by simpa using e
    exact ⟨p.2, by rw [← e']; exact hp⟩
  · rintro ⟨x, hx⟩
    exact ⟨(a, x), hx, by simp⟩
theorem set_has {Ps : List (Int × π)} {r : Nat} {id : Int} {x y : π} (h : Ps[r]? = some (id, y)) (a : Int) : hasId (Ps.set r (id, x)) a = hasId Ps a := by
  have e : (Ps.set r (id, x)).map (·.1) = Ps.map (·.1) := by
    refine List.ext_getElem? fun j => ?_
    rw [List.map_set, List.getElem?_set]
    split
    · rename_i hij
      subst hij
      obtain ⟨hi, e⟩ := List.getElem?_eq_some_iff.1 h
      rw [if_pos (by simpa using hi), List.getElem?_map, h]
      rfl
    · rfl
  have hm : ∀ Qs : List (Int × π), hasId Qs a = (Qs.map (·.1)).any (fun b => b == a) := fun Qs => by
    unfold hasId
    rw [List.any_map]
    rfl
  rw [hm, hm, e]
theorem ins_has {Ps : List (Int × π)} {id : Int} {x : π} (a : Int) : hasId (insAt Ps id x) a = (hasId Ps a || (id == a)) := by
  rw [Bool.eq_iff_iff, has_iff, Bool.or_eq_true, has_iff]
  constructor
  · rintro ⟨y, hy⟩
    unfold insAt at hy
    rcases List.mem_append.1 hy with hy | hy
    · exact .inl ⟨y, List.mem_of_mem_take hy⟩
    · rcases List.mem_cons.1 hy with e | hy
      · cases e; exact .inr (by simp)
      · exact .inl ⟨y, List.mem_of_mem_drop hy⟩
  · rintro (⟨y, hy⟩ | e)
    · rw [← List.take_append_drop (rank Ps id) Ps] at hy
      refine ⟨y, ?_⟩
      unfold insAt
      rcases List.mem_append.1 hy with hy | hy
      · exact List.mem_append_left _ hy
      · exact List.mem_append_right _ (List.mem_cons_of_mem _ hy)
    · have e' : id = a := by simpa using e
      subst e'
      exact ⟨x, List.mem_append_right _ (List.mem_cons_self ..)⟩
theorem put_keeps {Ps : List (Int × π)} (hu : Up Ps) {room id : Int} {x : π} {a : Int} (h : hasId Ps a = true) : hasId (putL Ps room id x) a = true := by
  unfold putL
  split
  · rename_i hh
    obtain ⟨y, hy⟩ := (has_at hu id).1 hh
    rw [set_has hy]; exact h
  · split
    · exact h
    · rw [ins_has, h]; rfl
theorem put_only {Ps : List (Int × π)} (hu : Up Ps) {room id : Int} {x : π} {a : Int} (h : hasId (putL Ps room id x) a = true) : hasId Ps a = true ∨ a = id := by
  unfold putL at h
  split at h
  · rename_i hh
    obtain ⟨y, hy⟩ := (has_at hu id).1 hh
    rw [set_has hy] at h; exact .inl h
  · split at h
    · exact .inl h
    · rw [ins_has, Bool.or_eq_true] at h
      rcases h with h | h
      · exact .inl h
      · have e : id = a := by simpa using h
        exact .inr e.symm
theorem put_in {Ps : List (Int × π)} (hu : Up Ps) {room id : Int} {x : π} (h : (Ps.length : Int) < room) : hasId (putL Ps room id x) id = true := by
  unfold putL
  split
  · rename_i hh
    obtain ⟨y, hy⟩ := (has_at hu id).1 hh
    rw [set_has hy]; exact hh
  · rw [if_neg (show ¬ room ≤ (Ps.length : Int) by omega), ins_has]; simp
theorem put_len {Ps : List (Int × π)} {room id : Int} {x : π} : (putL Ps room id x).length ≤ Ps.length + 1 := by
  have := rank_le Ps id
  unfold putL
  split
  · rw [List.length_set]; omega
  · split
    · omega
    · simp [insAt]; omega
theorem del_only {Ps : List (Int × π)} {id a : Int} (h : hasId (delL Ps id) a = true) : hasId Ps a = true := by
  unfold delL at h
  split at h
  · rw [has_iff] at h ⊢
    obtain ⟨y, hy⟩ := h
    exact ⟨y, List.mem_of_mem_eraseIdx hy⟩
  · exact h
theorem del_keeps {Ps : List (Int × π)} (hu : Up Ps) {id a : Int} (h : hasId Ps a = true) (hne : a ≠ id) : hasId (delL Ps id) a = true := by
  unfold delL
  split
  · rename_i hh
    obtain ⟨y, hy⟩ := (has_at hu id).1 hh
    rw [has_iff] at h ⊢
    obtain ⟨x, hx⟩ := h
    refine ⟨x, ?_⟩
    rw [List.eraseIdx_eq_take_drop_succ]
    have hs : Ps = Ps.take (rank Ps id) ++ (id, y) :: Ps.drop (rank Ps id + 1) := by
      obtain ⟨hi, e⟩ := List.getElem?_eq_some_iff.1 hy
      rw [← e, ← List.drop_eq_getElem_cons hi, List.take_append_drop]
    rw [hs] at hx
    rcases List.mem_append.1 hx with hx | hx
    · exact List.mem_append_left _ hx
    · rcases List.mem_cons.1 hx with e | hx
      · cases e; exact absurd rfl hne
      · exact List.mem_append_right _ hx
  · exact h
end

/-- A rising list within another one is not longer. -/
theorem rise_le : ∀ (l m : List Int), l.Pairwise (· < ·) → (∀ a ∈ l, a ∈ m) → l.length ≤ m.length
  | [], m, _, _ => Nat.zero_le _
  | x :: l, m, hp, hs => by
    obtain ⟨h1, h2⟩ := List.pairwise_cons.1 hp
    have hx : x ∈ m := hs x (List.mem_cons_self ..)
    have := rise_le l (m.erase x) h2 (fun a ha => by
      have h3 := h1 a ha
      exact (List.mem_erase_of_ne (by omega)).2 (hs a (List.mem_cons_of_mem _ ha)))
    rw [List.length_erase_of_mem hx] at this
    have h4 := List.length_pos_of_mem hx
    simp only [List.length_cons]
    omega

/-- What holds ahead of a round. -/
structure Going (ids : List Int) (names told gone : List Int) (has : Int → Bool) : Prop where
  rise : told.Pairwise (· < ·)
  from' : ∀ a ∈ told, a ∈ names
  have' : ∀ a, has a = true → a ∈ names
  stay : ∀ a ∈ ids, a ∈ gone ∨ (has a = true ∧ (a ∈ told ∨ ∀ b ∈ told, b < a))
/-- What Next tells: the least above all that were told. -/
structure Least (told : List Int) (has : Int → Bool) (id : Int) : Prop where
  here : has id = true
  above : ∀ b ∈ told, b < id
  least : ∀ a, has a = true → (∀ b ∈ told, b < a) → id ≤ a
theorem Going.few {ids names told gone : List Int} {has : Int → Bool} (h : Going ids names told gone has) {id : Int} (hl : Least told has id) : told.length < names.length := by
  have := rise_le (told ++ [id]) names (by
    rw [List.pairwise_append]
    exact ⟨h.rise, by simp, fun a ha b hb => by simp at hb; subst hb; exact hl.above a ha⟩) (fun a ha => by
    rcases List.mem_append.1 ha with ha | ha
    · exact h.from' a ha
    · simp at ha; subst ha; exact h.have' _ hl.here)
  simp at this
  omega
theorem Going.tell {ids names told gone : List Int} {has : Int → Bool} (h : Going ids names told gone has) {id : Int} (hl : Least told has id) : Going ids names (told ++ [id]) gone has := by
  refine ⟨?_, fun a ha => ?_, h.have', fun a ha => ?_⟩
  · rw [List.pairwise_append]
    exact ⟨h.rise, by simp, fun a ha b hb => by simp at hb; subst hb; exact hl.above a ha⟩
  · rcases List.mem_append.1 ha with ha | ha
    · exact h.from' a ha
    · simp at ha; subst ha; exact h.have' _ hl.here
  · rcases h.stay a ha with hg | ⟨hh, ht | ht⟩
    · exact .inl hg
    · exact .inr ⟨hh, .inl (List.mem_append_left _ ht)⟩
    · have hle := hl.least a hh ht
      by_cases e : a = id
      · exact .inr ⟨hh, .inl (by rw [e]; simp)⟩
      · exact .inr ⟨hh, .inr (fun b hb => by
          rcases List.mem_append.1 hb with hb | hb
          · exact ht b hb
          · simp at hb; omega)⟩
theorem Going.put {ids names told gone : List Int} {π : Type} {Ps : List (Int × π)} (hu : Up Ps) (h : Going ids names told gone (hasId Ps)) (room id : Int) (x : π) : Going ids (names ++ [id]) told gone (hasId (putL Ps room id x)) := by
  refine ⟨h.rise, fun a ha => List.mem_append_left _ (h.from' a ha), fun a ha => ?_, fun a ha => ?_⟩
  · rcases put_only hu ha with q | rfl
    · exact List.mem_append_left _ (h.have' a q)
    · simp
  · rcases h.stay a ha with hg | ⟨hh, ht⟩
    · exact .inl hg
    · exact .inr ⟨put_keeps hu hh, ht⟩
theorem Going.del {ids names told gone : List Int} {π : Type} {Ps : List (Int × π)} (hu : Up Ps) (h : Going ids names told gone (hasId Ps)) (id : Int) : Going ids (names ++ [id]) told (gone ++ [id]) (hasId (delL Ps id)) := by
  refine ⟨h.rise, fun a ha => List.mem_append_left _ (h.from' a ha), fun a ha => List.mem_append_left _ (h.have' a (del_only ha)), fun a ha => ?_⟩
  rcases h.stay a ha with hg | ⟨hh, ht⟩
  · exact .inl (List.mem_append_left _ hg)
  · by_cases e : a = id
    · exact .inl (by rw [e]; simp)
    · exact .inr ⟨del_keeps hu hh e, ht⟩
/-- Next tells nothing: all that stayed was told. -/
theorem Going.done {ids names told gone : List Int} {has : Int → Bool} (h : Going ids names told gone has) (hn : ∀ a, has a = true → ¬ ∀ b ∈ told, b < a) {a : Int} (ha : a ∈ ids) (hg : ¬ a ∈ gone) : a ∈ told := by
  rcases h.stay a ha with q | ⟨hh, ht | ht⟩
  · exact absurd q hg
  · exact ht
  · exact absurd ht (hn a hh)
end Go.Proofs.YtgoolkgjcmdilaaDoor
