/-
  Script, plain: a text's lines, a line's fields: what strings.Cut and strings.Split answer. No program stands here.
-/
import Derived.Lib.Split
import Derived.Lib.Join
import Derived.Lib.ItoaNum
namespace Go.Proofs.YtbpgpjibljgiiaaGreatDoor
set_option linter.unusedVariables false
set_option linter.unusedSimpArgs false
namespace Sc
/-- A text at the byte c: all pieces (at least one). -/
def pieces (c : UInt8) : List UInt8 → List (List UInt8)
  | [] => [[]]
  | x :: l => if x = c then [] :: pieces c l else match pieces c l with
    | [] => [[x]]
    | a :: r => (x :: a) :: r
theorem pieces_ne (c : UInt8) (l : List UInt8) : pieces c l ≠ [] := by
  cases l with
  | nil => simp [pieces]
  | cons x l =>
    unfold pieces
    split
    · simp
    · split <;> simp
/-- The text ahead of the first byte c, and what stands behind it. -/
def cutAt (c : UInt8) : List UInt8 → Option (List UInt8 × List UInt8)
  | [] => none
  | x :: l => if x = c then some ([], l) else (cutAt c l).map (fun p => (x :: p.1, p.2))
theorem cutAt_some {c : UInt8} : ∀ {l a b : List UInt8}, cutAt c l = some (a, b) → l = a ++ c :: b ∧ c ∉ a
  | [], a, b, h => by cases h
  | x :: l, a, b, h => by
    unfold cutAt at h
    split at h
    · rename_i hx
      cases h
      subst hx
      simp
    · rename_i hx
      cases hc : cutAt c l with
      | none => rw [hc] at h; cases h
      | some p =>
        rw [hc] at h
        obtain ⟨p1, p2⟩ := p
        simp only [Option.map_some, Option.some.injEq, Prod.mk.injEq] at h
        obtain ⟨rfl, rfl⟩ := h
        obtain ⟨h1, h2⟩ := cutAt_some hc
        refine ⟨by rw [h1]; rfl, ?_⟩
        simp [Ne.symm hx, h2]
theorem cutAt_none {c : UInt8} : ∀ {l : List UInt8}, cutAt c l = none → c ∉ l
  | [], h => by simp
  | x :: l, h => by
    unfold cutAt at h
    split at h
    · cases h
    · rename_i hx
      simp only [Option.map_eq_none_iff] at h
      simp [Ne.symm hx, cutAt_none h]
theorem cutAt_app {c : UInt8} : ∀ {a : List UInt8} (b : List UInt8), c ∉ a → cutAt c (a ++ c :: b) = some (a, b)
  | [], b, h => by simp [cutAt]
  | x :: a, b, h => by
    simp only [List.mem_cons, not_or] at h
    rw [List.cons_append, cutAt, if_neg (Ne.symm h.1), cutAt_app b h.2]
    rfl
theorem cutAt_of_not {c : UInt8} : ∀ {l : List UInt8}, c ∉ l → cutAt c l = none
  | [], h => rfl
  | x :: l, h => by
    simp only [List.mem_cons, not_or] at h
    rw [cutAt, if_neg (Ne.symm h.1), cutAt_of_not h.2]
    rfl
theorem pieces_cut {c : UInt8} {l a b : List UInt8} (h : cutAt c l = some (a, b)) : pieces c l = a :: pieces c b := by
  induction l generalizing a with
  | nil => cases h
  | cons x l ih =>
    unfold cutAt at h
    rw [pieces.eq_2]
    split at h
    · rename_i hx
      cases h
      rw [if_pos hx]
    · rename_i hx
      rw [if_neg hx]
      cases hc : cutAt c l with
      | none => rw [hc] at h; cases h
      | some p =>
        rw [hc] at h
        obtain ⟨p1, p2⟩ := p
        simp only [Option.map_some, Option.some.injEq, Prod.mk.injEq] at h
        obtain ⟨rfl, rfl⟩ := h
        rw [ih hc]
theorem pieces_not {c : UInt8} : ∀ {l : List UInt8}, c ∉ l → pieces c l = [l]
  | [], h => rfl
  | x :: l, h => by
    simp only [List.mem_cons, not_or] at h
    rw [pieces, if_neg (Ne.symm h.1), pieces_not h.2]
theorem pieces_mem {c : UInt8} : ∀ {l p : List UInt8}, p ∈ pieces c l → c ∉ p ∧ p.length ≤ l.length
  | [], p, h => by
    simp only [pieces, List.mem_singleton] at h
    subst h
    simp
  | x :: l, p, h => by
    unfold pieces at h
    split at h
    · simp only [List.mem_cons] at h
      rcases h with rfl | h
      · simp
      · have := pieces_mem h
        exact ⟨this.1, by simp only [List.length_cons]; omega⟩
    · rename_i hx
      split at h
      · rename_i hp
        exact absurd hp (pieces_ne c l)
      · rename_i a r hp
        simp only [List.mem_cons] at h
        rcases h with rfl | h
        · have := pieces_mem (c := c) (l := l) (p := a) (by rw [hp]; simp)
          exact ⟨by simp [Ne.symm hx, this.1], by simp only [List.length_cons]; omega⟩
        · have := pieces_mem (c := c) (l := l) (p := p) (by rw [hp]; simp [h])
          exact ⟨this.1, by simp only [List.length_cons]; omega⟩
theorem pieces_length (c : UInt8) : ∀ l : List UInt8, (pieces c l).length ≤ l.length + 1
  | [] => by simp [pieces]
  | x :: l => by
    have := pieces_length c l
    unfold pieces
    split
    · simp; omega
    · split
      · simp
      · rename_i a r hp
        rw [hp] at this
        simp at this ⊢; omega
/-- Joined they are the text. -/
theorem join_pieces (c : UInt8) : ∀ l : List UInt8, Lib.join (pieces c l) [c] = l
  | [] => by simp [pieces, Lib.join_one]
  | x :: l => by
    have ih := join_pieces c l
    unfold pieces
    split
    · rename_i hx
      subst hx
      obtain ⟨a, r, hp⟩ := List.exists_cons_of_ne_nil (pieces_ne x l)
      rw [hp] at ih ⊢
      rw [Lib.join_cons] at ih
      rw [Lib.join_cons, Lib.joinTail, List.map_cons, List.flatten_cons, ← Lib.joinTail]
      simp [ih]
    · split
      · rename_i hp
        exact absurd hp (pieces_ne c l)
      · rename_i a r hp
        rw [hp, Lib.join_cons] at ih
        rw [Lib.join_cons]
        simp [ih]
theorem pieces_app {c : UInt8} : ∀ {a : List UInt8} (b : List UInt8), c ∉ a → pieces c (a ++ c :: b) = a :: pieces c b
  | a, b, h => pieces_cut (cutAt_app b h)
/-- The pieces of a join are its parts, where no part holds the byte. -/
theorem pieces_join {c : UInt8} : ∀ (x : List UInt8) (r : List (List UInt8)), (∀ p ∈ x :: r, c ∉ p) → pieces c (Lib.join (x :: r) [c]) = x :: r
  | x, [], h => by rw [Lib.join_one]; exact pieces_not (h x (by simp))
  | x, y :: r, h => by
    rw [Lib.join_cons, Lib.joinTail, List.map_cons, List.flatten_cons, ← Lib.joinTail, List.singleton_append, List.cons_append, ← Lib.join_cons y r]
    rw [pieces_app _ (h x (by simp)), pieces_join y r (fun p hp => h p (List.mem_cons_of_mem _ hp))]

/-! ### the library's words -/
theorem index_cut (c : UInt8) : ∀ l : List UInt8, Lib.index l [c] = match cutAt c l with | none => -1 | some (a, _) => (a.length : Int)
  | [] => rfl
  | x :: l => by
    have ih := index_cut c l
    unfold Lib.index cutAt
    by_cases hx : x = c
    · subst hx
      simp
    · rw [if_neg hx]
      have h1 : ([c].isPrefixOf (x :: l)) = false := by simp [List.isPrefixOf, Ne.symm hx]
      rw [h1, ih]
      cases hc : cutAt c l with
      | none => simp
      | some p =>
        obtain ⟨p1, p2⟩ := p
        have : ¬ ((p1.length : Int) = -1) := by omega
        simp [this]
theorem cut_cut (c : UInt8) (l : List UInt8) : Lib.cut l [c] = match cutAt c l with | none => (l, [], false) | some (a, b) => (a, b, true) := by
  unfold Lib.cut
  rw [index_cut]
  cases hc : cutAt c l with
  | none => simp
  | some p =>
    obtain ⟨a, b⟩ := p
    obtain ⟨h1, -⟩ := cutAt_some hc
    have : (0 : Int) ≤ (a.length : Int) := by omega
    simp only [if_pos this]
    rw [h1]
    simp
theorem count_cut (c : UInt8) (l : List UInt8) : Lib.count l [c] = match cutAt c l with | none => 0 | some (_, b) => 1 + Lib.count b [c] := by
  have hi := index_cut c l
  cases hc : cutAt c l with
  | none => rw [hc] at hi; exact Lib.count_miss hi
  | some p =>
    obtain ⟨a, b⟩ := p
    rw [hc] at hi
    rw [Lib.count_hit (by simp) hi]
    obtain ⟨h1, -⟩ := cutAt_some hc
    rw [h1]
    simp
theorem splitK_pieces (c : UInt8) : ∀ (n : Nat) (l : List UInt8), l.length ≤ n → Lib.splitK [c] 0 (Lib.count l [c]) l = pieces c l
  | n, l, hn => by
    have hi := index_cut c l
    rw [count_cut]
    cases hc : cutAt c l with
    | none => rw [pieces_not (cutAt_none hc)]; rfl
    | some p =>
      obtain ⟨a, b⟩ := p
      rw [hc] at hi
      obtain ⟨h1, h2⟩ := cutAt_some hc
      have hlen : l.length = a.length + 1 + b.length := by rw [h1]; simp; omega
      have hi' : ¬ ((Lib.index l [c] == -1) = true) := by rw [hi, beq_iff_eq]; dsimp only; omega
      rw [pieces_cut hc]
      show Lib.splitK [c] 0 (1 + Lib.count b [c]) l = _
      rw [Nat.add_comm, Lib.splitK, if_neg hi', hi]
      cases n with
      | zero => omega
      | succ n =>
        have hb : l.drop ((a.length : Int).toNat + [c].length) = b := by rw [h1]; simp
        have ha : l.take ((a.length : Int).toNat + 0) = a := by rw [h1]; simp
        rw [hb, ha, splitK_pieces c n b (by omega)]
  termination_by n => n
/-- A line's fields. -/
def fieldsB (s : ByteArray) : List ByteArray := (pieces 32 s.data.toList).map fun l => ⟨l.toArray⟩
theorem splitB_fields (s : ByteArray) : Lib.splitB ⟨#[32]⟩ 0 (Lib.countB s ⟨#[32]⟩) s = fieldsB s := by
  have h := Lib.splitB_data ⟨#[32]⟩ 0 (Lib.countB s ⟨#[32]⟩) s
  have h2 : Lib.splitK [32] 0 (Lib.countB s ⟨#[32]⟩) s.data.toList = pieces 32 s.data.toList := splitK_pieces 32 _ _ (Nat.le_refl _)
  rw [show (⟨#[32]⟩ : ByteArray).data.toList = [32] from rfl, h2] at h
  unfold fieldsB
  rw [← h, List.map_map]
  conv => lhs; rw [← List.map_id (Lib.splitB _ _ _ _)]
  refine List.map_congr_left fun b _ => ?_
  simp
theorem splitB_count (s : ByteArray) : Lib.countB s ⟨#[32]⟩ + 1 = (fieldsB s).length := by
  have h : ∀ (n : Nat) (l : List UInt8), l.length ≤ n → Lib.count l [32] + 1 = (pieces 32 l).length := by
    intro n
    induction n with
    | zero =>
      intro l hl
      have : l = [] := List.length_eq_zero_iff.1 (by omega)
      subst this
      rfl
    | succ n ih =>
      intro l hl
      rw [count_cut]
      cases hc : cutAt 32 l with
      | none => rw [pieces_not (cutAt_none hc)]; rfl
      | some p =>
        obtain ⟨a, b⟩ := p
        obtain ⟨h1, h2⟩ := cutAt_some hc
        have hlen : l.length = a.length + 1 + b.length := by rw [h1]; simp; omega
        rw [pieces_cut hc, List.length_cons, ← ih b (by omega)]
        simp; omega
  have := h _ s.data.toList (Nat.le_refl _)
  rw [fieldsB, List.length_map]
  exact this
theorem fieldsB_pos (s : ByteArray) : 0 < (fieldsB s).length := by
  rw [fieldsB, List.length_map]
  exact List.length_pos_iff.2 (pieces_ne _ _)
theorem fieldsB_len (s : ByteArray) : (fieldsB s).length ≤ s.size + 1 := by
  rw [fieldsB, List.length_map]
  exact pieces_length 32 s.data.toList
theorem fieldsB_size {s f : ByteArray} (h : f ∈ fieldsB s) : f.size ≤ s.size := by
  unfold fieldsB at h
  obtain ⟨l, hl, rfl⟩ := List.mem_map.1 h
  have := (pieces_mem hl).2
  exact this
theorem fieldsB_blank {s f : ByteArray} (h : f ∈ fieldsB s) : (32 : UInt8) ∉ f.data.toList := by
  unfold fieldsB at h
  obtain ⟨l, hl, rfl⟩ := List.mem_map.1 h
  simpa using (pieces_mem hl).1
end Sc
end Go.Proofs.YtbpgpjibljgiiaaGreatDoor
