/-
  Plain laws of tables: pairs that rise, their cells in a row, ranks.
-/
import Derived.Test.YtgoolkgjcmdilaaDoorKit
namespace Go.Proofs.YtgoolkgjcmdilaaDoor
open Go.RowKit
set_option linter.unusedVariables false

section
variable {π : Type}
/-- The pairs rise. -/
def Up (Ps : List (Int × π)) : Prop := Ps.Pairwise fun a b => a.1 < b.1
/-- How many numbers are less. -/
def rank (Ps : List (Int × π)) (id : Int) : Nat := Ps.countP fun p => decide (p.1 < id)
def hasId (Ps : List (Int × π)) (id : Int) : Bool := Ps.any fun p => p.1 == id
def U32 (x : Int) : Prop := 0 ≤ x ∧ x ≤ 4294967295
theorem rank_le (Ps : List (Int × π)) (id : Int) : rank Ps id ≤ Ps.length := List.countP_le_length
theorem rank_cons (q : Int × π) (r : List (Int × π)) (id : Int) : rank (q :: r) id = rank r id + if q.1 < id then 1 else 0 := by
  unfold rank
  rw [List.countP_cons]
  simp only [decide_eq_true_eq]
theorem rank_zero {r : List (Int × π)} {id : Int} (h : ∀ p ∈ r, id ≤ p.1) : rank r id = 0 := by
  unfold rank
  rw [List.countP_eq_zero]
  intro p hp
  have := h p hp
  simp; omega
theorem rank_lt {Ps : List (Int × π)} (hu : Up Ps) (id : Int) : ∀ {i : Nat} {p : Int × π}, Ps[i]? = some p → (p.1 < id ↔ i < rank Ps id) := by
  induction Ps with
  | nil => intro i p h; simp at h
  | cons q r ih =>
    intro i p h
    obtain ⟨h1, h2⟩ := List.pairwise_cons.1 hu
    rw [rank_cons]
    by_cases hq : q.1 < id
    · rw [if_pos hq]
      cases i with
      | zero => simp at h; subst h; simp [hq]
      | succ i => simp at h; rw [ih h2 h]; omega
    · rw [if_neg hq, rank_zero (fun p hp => by have := h1 p hp; omega)]
      cases i with
      | zero => simp at h; subst h; omega
      | succ i => simp at h; have := h1 p (List.mem_of_getElem? h); omega
theorem has_at {Ps : List (Int × π)} (hu : Up Ps) (id : Int) : hasId Ps id = true ↔ ∃ x, Ps[rank Ps id]? = some (id, x) := by
  constructor
  · intro h
    unfold hasId at h
    rw [List.any_eq_true] at h
    obtain ⟨p, hp, he⟩ := h
    have he' : p.1 = id := by simpa using he
    obtain ⟨i, hi⟩ := List.mem_iff_getElem?.1 hp
    have h1 := rank_lt hu id hi
    have h2 : i = rank Ps id := by
      have ha : ¬ i < rank Ps id := fun h => by have := h1.2 h; omega
      rcases Nat.lt_or_ge (rank Ps id) i with hb | hb
      · exfalso
        have hr : rank Ps id < Ps.length := Nat.lt_trans hb (List.getElem?_eq_some_iff.1 hi).1
        have h3 := rank_lt hu id (List.getElem?_eq_getElem hr)
        have h4 : ¬ (Ps[rank Ps id]).1 < id := fun h => by have := h3.1 h; omega
        have h5 := List.pairwise_iff_getElem.1 hu _ _ hr (List.getElem?_eq_some_iff.1 hi).1 hb
        obtain ⟨_, e⟩ := List.getElem?_eq_some_iff.1 hi
        rw [e] at h5
        omega
      · omega
    subst h2
    exact ⟨p.2, by rw [hi, ← he']⟩
  · rintro ⟨x, hx⟩
    unfold hasId
    rw [List.any_eq_true]
    exact ⟨(id, x), List.mem_of_getElem? hx, by simp⟩

/-! ### the cells of the pairs -/
variable (pay : π → List Value)
def flat (Ps : List (Int × π)) : List Value := Ps.flatMap fun p => .int .u32 p.1 :: pay p.2
/-- What lies under a number takes k cells. -/
structure Wide (k : Nat) : Prop where
  len : ∀ x, (pay x).length = k
  one : ∀ x, ∀ v ∈ pay x, v.oneCell' = true
variable {pay} {k : Nat}
theorem flat_nil : flat pay [] = [] := rfl
theorem flat_cons (p : Int × π) (r : List (Int × π)) : flat pay (p :: r) = (.int .u32 p.1 :: pay p.2) ++ flat pay r := by simp [flat]
theorem flat_app (a b : List (Int × π)) : flat pay (a ++ b) = flat pay a ++ flat pay b := by simp [flat]
theorem flat_len (h : Wide pay k) : ∀ Ps : List (Int × π), (flat pay Ps).length = Ps.length * (k + 1)
  | [] => by simp [flat_nil]
  | p :: r => by
    rw [flat_cons, List.length_append, flat_len h r, List.length_cons, List.length_cons, h.len, Nat.succ_mul]
    omega
theorem flat_one (h : Wide pay k) (Ps : List (Int × π)) : ∀ v ∈ flat pay Ps, v.oneCell' = true := by
  intro v hv
  unfold flat at hv
  rw [List.mem_flatMap] at hv
  obtain ⟨p, _, hv⟩ := hv
  rcases List.mem_cons.1 hv with rfl | hv
  · rfl
  · exact h.one _ _ hv
theorem flat_split {Ps : List (Int × π)} {i : Nat} {p : Int × π} (h : Ps[i]? = some p) : flat pay Ps = flat pay (Ps.take i) ++ ((.int .u32 p.1 :: pay p.2) ++ flat pay (Ps.drop (i + 1))) := by
  obtain ⟨hi, e⟩ := List.getElem?_eq_some_iff.1 h
  conv => lhs; rw [← List.take_append_drop i Ps, List.drop_eq_getElem_cons hi, e]
  rw [flat_app, flat_cons]
theorem flat_at (hw : Wide pay k) {Ps : List (Int × π)} {i : Nat} {p : Int × π} (h : Ps[i]? = some p) (j : Nat) : (flat pay Ps)[i * (k + 1) + j]? = ((.int .u32 p.1 :: pay p.2) ++ flat pay (Ps.drop (i + 1)))[j]? := by
  have hi := (List.getElem?_eq_some_iff.1 h).1
  have hl : (flat pay (Ps.take i)).length = i * (k + 1) := by rw [flat_len hw, List.length_take, Nat.min_eq_left (by omega)]
  rw [flat_split h, List.getElem?_append_right (by omega), hl, Nat.add_sub_cancel_left]
theorem flat_id (hw : Wide pay k) {Ps : List (Int × π)} {i : Nat} {p : Int × π} (h : Ps[i]? = some p) : (flat pay Ps)[i * (k + 1)]? = some (.int .u32 p.1) := flat_at hw h 0
theorem flat_pay (hw : Wide pay k) {Ps : List (Int × π)} {i : Nat} {p : Int × π} (h : Ps[i]? = some p) {j : Nat} {v : Value} (hv : (pay p.2)[j]? = some v) : (flat pay Ps)[i * (k + 1) + (j + 1)]? = some v := by
  rw [flat_at hw h, List.getElem?_append_left (by have := (List.getElem?_eq_some_iff.1 hv).1; simp; omega)]
  simpa using hv
theorem flat_take (hw : Wide pay k) (Ps : List (Int × π)) (i : Nat) : (flat pay Ps).take (i * (k + 1)) = flat pay (Ps.take i) := by
  rcases Nat.lt_or_ge i Ps.length with h | h
  · have hl : (flat pay (Ps.take i)).length = i * (k + 1) := by rw [flat_len hw, List.length_take, Nat.min_eq_left (by omega)]
    conv => lhs; rw [← List.take_append_drop i Ps, flat_app]
    rw [List.take_append_of_le_length (by omega), List.take_of_length_le (by omega)]
  · rw [List.take_of_length_le h, List.take_of_length_le]
    rw [flat_len hw]
    exact Nat.mul_le_mul_right _ h
theorem flat_drop (hw : Wide pay k) (Ps : List (Int × π)) (i : Nat) : (flat pay Ps).drop (i * (k + 1)) = flat pay (Ps.drop i) := by
  rcases Nat.lt_or_ge i Ps.length with h | h
  · have hl : (flat pay (Ps.take i)).length = i * (k + 1) := by rw [flat_len hw, List.length_take, Nat.min_eq_left (by omega)]
    conv => lhs; rw [← List.take_append_drop i Ps, flat_app]
    rw [List.drop_append_of_le_length (by omega), List.drop_of_length_le (by omega), List.nil_append]
  · rw [List.drop_of_length_le h, List.drop_of_length_le]
    · rfl
    · rw [flat_len hw]
      exact Nat.mul_le_mul_right _ h
end

/-! ### insertion keeps them rising -/
section
variable {π : Type}
def insAt (Ps : List (Int × π)) (id : Int) (x : π) : List (Int × π) := Ps.take (rank Ps id) ++ (id, x) :: Ps.drop (rank Ps id)
theorem up_ins {Ps : List (Int × π)} (hu : Up Ps) {id : Int} (x : π) (hn : hasId Ps id = false) : Up (insAt Ps id x) := by
  have hA : ∀ p ∈ Ps.take (rank Ps id), p.1 < id := by
    intro p hp
    obtain ⟨i, hi⟩ := List.mem_iff_getElem?.1 hp
    rw [List.getElem?_take] at hi
    split at hi
    · exact (rank_lt hu id hi).2 ‹_›
    · cases hi
  have hB : ∀ p ∈ Ps.drop (rank Ps id), id < p.1 := by
    intro p hp
    obtain ⟨i, hi⟩ := List.mem_iff_getElem?.1 hp
    rw [List.getElem?_drop] at hi
    have h1 : ¬ p.1 < id := fun h => by have := (rank_lt hu id hi).1 h; omega
    have h2 : p.1 ≠ id := by
      intro e
      have : hasId Ps id = true := by
        unfold hasId
        rw [List.any_eq_true]
        exact ⟨p, List.mem_of_getElem? hi, by simp [e]⟩
      rw [this] at hn
      cases hn
    omega
  have hP := hu
  unfold Up at hP ⊢
  rw [← List.take_append_drop (rank Ps id) Ps, List.pairwise_append] at hP
  unfold insAt
  rw [List.pairwise_append, List.pairwise_cons]
  refine ⟨hP.1, ⟨fun p hp => hB p hp, hP.2.1⟩, fun a ha b hb => ?_⟩
  rcases List.mem_cons.1 hb with rfl | hb
  · exact hA a ha
  · exact hP.2.2 a ha b hb
theorem up_set {Ps : List (Int × π)} (hu : Up Ps) {i : Nat} {id : Int} {x y : π} (h : Ps[i]? = some (id, y)) : Up (Ps.set i (id, x)) := by
  have e : (Ps.set i (id, x)).map (·.1) = Ps.map (·.1) := by
    refine List.ext_getElem? fun j => ?_
    rw [List.map_set, List.getElem?_set]
    split
    · rename_i hij
      subst hij
      obtain ⟨hi, e⟩ := List.getElem?_eq_some_iff.1 h
      rw [if_pos (by simpa using hi), List.getElem?_map, h]
      rfl
    · rfl
  have hm := (List.pairwise_map (f := Prod.fst) (R := fun a b : Int => a < b) (l := Ps)).2 hu
  exact (List.pairwise_map (f := Prod.fst) (R := fun a b : Int => a < b) (l := Ps.set i (id, x))).1 (by rw [show (Ps.set i (id, x)).map Prod.fst = Ps.map Prod.fst from e]; exact hm)
theorem up_erase {Ps : List (Int × π)} (hu : Up Ps) (i : Nat) : Up (Ps.eraseIdx i) := List.Pairwise.sublist (List.eraseIdx_sublist Ps i) hu
end
theorem wr {x : Int} (h : -9223372036854775808 ≤ x ∧ x ≤ 9223372036854775807) : IntKind.i64.wrap x = x := by
  rw [IntKind.wrap_i64]; omega
theorem w64 {x : Int} (h : -9223372036854775808 ≤ x ∧ x ≤ 9223372036854775807) : wrap64 x = x := by
  have := wr h
  rw [IntKind.wrap_i64] at this
  unfold wrap64
  omega
theorem mid_eq {i j : Nat} (h : i + j ≤ 1000000) : wrap64 (IntKind.u64.wrap (wrap64 ((i : Int) + (j : Int))) / 2) = (((i + j) / 2 : Nat) : Int) := by
  have e : wrap64 ((i : Int) + (j : Int)) = (i : Int) + (j : Int) := w64 (by omega)
  have e2 : IntKind.u64.wrap ((i : Int) + (j : Int)) = (i : Int) + (j : Int) := by rw [IntKind.wrap_u64]; omega
  rw [e, e2, w64 (by omega)]
  omega
end Go.Proofs.YtgoolkgjcmdilaaDoor
