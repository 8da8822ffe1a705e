/-
  Tb, part 7 of 36: the texts TabP Row Inv.
-/
import Derived.Laws.CopyRow
import Derived.Laws.Externs
import Derived.Lib.Overlaps
import Derived.Lib.AppendZerosOnto
import Derived.Orders
import Derived.Test.YtgoolkgjcmdilaaDoorTb1
section
namespace Go.Proofs.YtgoolkgjcmdilaaDoor
open Go.RowKit
set_option linter.unusedVariables false
section
variable {π : Type}
/-- The pairs rise. -/
def Up (Ps : List (Int × π)) : Prop := Ps.Pairwise fun a b => a.1 < b.1
/-- How many numbers are less. -/
def rank (Ps : List (Int × π)) (id : Int) : Nat := Ps.countP fun p => decide (p.1 < id)
def hasId (Ps : List (Int × π)) (id : Int) : Bool := Ps.any fun p => p.1 == id
def U32 (x : Int) : Prop := 0 ≤ x ∧ x ≤ 4294967295
theorem rank_le (Ps : List (Int × π)) (id : Int) : rank Ps id ≤ Ps.length := List.countP_le_length
theorem rank_cons (q : Int × π) (r : List (Int × π)) (id : Int) : rank (q :: r) id = rank r id + if q.1 < id then 1 else 0 := by
  unfold rank
  rw [List.countP_cons]
  simp only [decide_eq_true_eq]
theorem rank_zero {r : List (Int × π)} {id : Int} (h : ∀ p ∈ r, id ≤ p.1) : rank r id = 0 := by
  unfold rank
  rw [List.countP_eq_zero]
  intro p hp
  have := h p hp
  simp; omega
theorem rank_lt {Ps : List (Int × π)} (hu : Up Ps) (id : Int) : ∀ {i : Nat} {p : Int × π}, Ps[i]? = some p → (p.1 < id ↔ i < rank Ps id) := by
  induction Ps with
  | nil => intro i p h; simp at h
  | cons q r ih =>
    intro i p h
    obtain ⟨h1, h2⟩ := List.pairwise_cons.1 hu
    rw [rank_cons]
    by_cases hq : q.1 < id
    · rw [if_pos hq]
      cases i with
      | zero => simp at h; subst h; simp [hq]
      | succ i => simp at h; rw [ih h2 h]; omega
    · rw [if_neg hq, rank_zero (fun p hp => by have := h1 p hp; omega)]
      cases i with
      | zero => simp at h; subst h; omega
      | succ i => simp at h; have := h1 p (List.mem_of_getElem? h); omega
theorem has_at {Ps : List (Int × π)} (hu : Up Ps) (id : Int) : hasId Ps id = true ↔ ∃ x, Ps[rank Ps id]? = some (id, x) := by
  constructor
  · intro h
    unfold hasId at h
    rw [List.any_eq_true] at h
    obtain ⟨p, hp, he⟩ := h
    have he' : p.1 = id := by simpa using he
    obtain ⟨i, hi⟩ := List.mem_iff_getElem?.1 hp
    have h1 := rank_lt hu id hi
    have h2 : i = rank Ps id := by
      have ha : ¬ i < rank Ps id := fun h => by have := h1.2 h; omega
      rcases Nat.lt_or_ge (rank Ps id) i with hb | hb
      · exfalso
        have hr : rank Ps id < Ps.length := Nat.lt_trans hb (List.getElem?_eq_some_iff.1 hi).1
        have h3 := rank_lt hu id (List.getElem?_eq_getElem hr)
        have h4 : ¬ (Ps[rank Ps id]).1 < id := fun h => by have := h3.1 h; omega
        have h5 := List.pairwise_iff_getElem.1 hu _ _ hr (List.getElem?_eq_some_iff.1 hi).1 hb
        obtain ⟨_, e⟩ := List.getElem?_eq_some_iff.1 hi
        rw [e] at h5
        omega
      · omega
    subst h2
    exact ⟨p.2, by rw [hi, ← he']⟩
  · rintro ⟨x, hx⟩
    unfold hasId
    rw [List.any_eq_true]
    exact ⟨(id, x), List.mem_of_getElem? hx, by simp⟩
variable (pay : π → List Value)
def flat (Ps : List (Int × π)) : List Value := Ps.flatMap fun p => .int .u32 p.1 :: pay p.2
/-- What lies under a number takes k cells. -/
structure Wide (k : Nat) : Prop where
  len : ∀ x, (pay x).length = k
  one : ∀ x, ∀ v ∈ pay x, v.oneCell' = true
variable {pay} {k : Nat}
theorem flat_nil : flat pay [] = [] := rfl
theorem flat_cons (p : Int × π) (r : List (Int × π)) : flat pay (p :: r) = (.int .u32 p.1 :: pay p.2) ++ flat pay r := by simp [flat]
theorem flat_app (a b : List (Int × π)) : flat pay (a ++ b) = flat pay a ++ flat pay b := by simp [flat]
theorem flat_len (h : Wide pay k) : ∀ Ps : List (Int × π), (flat pay Ps).length = Ps.length * (k + 1)
  | [] => by simp [flat_nil]
  | p :: r => by
    rw [flat_cons, List.length_append, flat_len h r, List.length_cons, List.length_cons, h.len, Nat.succ_mul]
    omega
theorem flat_one (h : Wide pay k) (Ps : List (Int × π)) : ∀ v ∈ flat pay Ps, v.oneCell' = true := by
  intro v hv
  unfold flat at hv
  rw [List.mem_flatMap] at hv
  obtain ⟨p, _, hv⟩ := hv
  rcases List.mem_cons.1 hv with rfl | hv
  · rfl
  · exact h.one _ _ hv
theorem flat_split {Ps : List (Int × π)} {i : Nat} {p : Int × π} (h : Ps[i]? = some p) : flat pay Ps = flat pay (Ps.take i) ++ ((.int .u32 p.1 :: pay p.2) ++ flat pay (Ps.drop (i + 1))) := by
  obtain ⟨hi, e⟩ := List.getElem?_eq_some_iff.1 h
  conv => lhs; rw [← List.take_append_drop i Ps, List.drop_eq_getElem_cons hi, e]
  rw [flat_app, flat_cons]
theorem flat_at (hw : Wide pay k) {Ps : List (Int × π)} {i : Nat} {p : Int × π} (h : Ps[i]? = some p) (j : Nat) : (flat pay Ps)[i * (k + 1) + j]? = ((.int .u32 p.1 :: pay p.2) ++ flat pay (Ps.drop (i + 1)))[j]? := by
  have hi := (List.getElem?_eq_some_iff.1 h).1
  have hl : (flat pay (Ps.take i)).length = i * (k + 1) := by rw [flat_len hw, List.length_take, Nat.min_eq_left (by omega)]
  rw [flat_split h, List.getElem?_append_right (by omega), hl, Nat.add_sub_cancel_left]
theorem flat_id (hw : Wide pay k) {Ps : List (Int × π)} {i : Nat} {p : Int × π} (h : Ps[i]? = some p) : (flat pay Ps)[i * (k + 1)]? = some (.int .u32 p.1) := flat_at hw h 0
theorem flat_pay (hw : Wide pay k) {Ps : List (Int × π)} {i : Nat} {p : Int × π} (h : Ps[i]? = some p) {j : Nat} {v : Value} (hv : (pay p.2)[j]? = some v) : (flat pay Ps)[i * (k + 1) + (j + 1)]? = some v := by
  rw [flat_at hw h, List.getElem?_append_left (by have := (List.getElem?_eq_some_iff.1 hv).1; simp; omega)]
  simpa using hv
theorem flat_take (hw : Wide pay k) (Ps : List (Int × π)) (i : Nat) : (flat pay Ps).take (i * (k + 1)) = flat pay (Ps.take i) := by
  rcases Nat.lt_or_ge i Ps.length with h | h
  · have hl : (flat pay (Ps.take i)).length = i * (k + 1) := by rw [flat_len hw, List.length_take, Nat.min_eq_left (by omega)]
    conv => lhs; rw [← List.take_append_drop i Ps, flat_app]
    rw [List.take_append_of_le_length (by omega), List.take_of_length_le (by omega)]
  · rw [List.take_of_length_le h, List.take_of_length_le]
    rw [flat_len hw]
    exact Nat.mul_le_mul_right _ h
theorem flat_drop (hw : Wide pay k) (Ps : List (Int × π)) (i : Nat) : (flat pay Ps).drop (i * (k + 1)) = flat pay (Ps.drop i) := by
  rcases Nat.lt_or_ge i Ps.length with h | h
  · have hl : (flat pay (Ps.take i)).length = i * (k + 1) := by rw [flat_len hw, List.length_take, Nat.min_eq_left (by omega)]
    conv => lhs; rw [← List.take_append_drop i Ps, flat_app]
    rw [List.drop_append_of_le_length (by omega), List.drop_of_length_le (by omega), List.nil_append]
  · rw [List.drop_of_length_le h, List.drop_of_length_le]
    · rfl
    · rw [flat_len hw]
      exact Nat.mul_le_mul_right _ h
end
section
variable {π : Type}
def insAt (Ps : List (Int × π)) (id : Int) (x : π) : List (Int × π) := Ps.take (rank Ps id) ++ (id, x) :: Ps.drop (rank Ps id)
theorem up_ins {Ps : List (Int × π)} (hu : Up Ps) {id : Int} (x : π) (hn : hasId Ps id = false) : Up (insAt Ps id x) := by
  have hA : ∀ p ∈ Ps.take (rank Ps id), p.1 < id := by
    intro p hp
    obtain ⟨i, hi⟩ := List.mem_iff_getElem?.1 hp
    rw [List.getElem?_take] at hi
    split at hi
    · exact (rank_lt hu id hi).2 ‹_›
    · cases hi
  have hB : ∀ p ∈ Ps.drop (rank Ps id), id < p.1 := by
    intro p hp
    obtain ⟨i, hi⟩ := List.mem_iff_getElem?.1 hp
    rw [List.getElem?_drop] at hi
    have h1 : ¬ p.1 < id := fun h => by have := (rank_lt hu id hi).1 h; omega
    have h2 : p.1 ≠ id := by
      intro e
      have : hasId Ps id = true := by
        unfold hasId
        rw [List.any_eq_true]
        exact ⟨p, List.mem_of_getElem? hi, by simp [e]⟩
      rw [this] at hn
      cases hn
    omega
  have hP := hu
  unfold Up at hP ⊢
  rw [← List.take_append_drop (rank Ps id) Ps, List.pairwise_append] at hP
  unfold insAt
  rw [List.pairwise_append, List.pairwise_cons]
  refine ⟨hP.1, ⟨fun p hp => hB p hp, hP.2.1⟩, fun a ha b hb => ?_⟩
  rcases List.mem_cons.1 hb with rfl | hb
  · exact hA a ha
  · exact hP.2.2 a ha b hb
theorem up_erase {Ps : List (Int × π)} (hu : Up Ps) (i : Nat) : Up (Ps.eraseIdx i) := List.Pairwise.sublist (List.eraseIdx_sublist Ps i) hu
end
theorem wr {x : Int} (h : -9223372036854775808 ≤ x ∧ x ≤ 9223372036854775807) : IntKind.i64.wrap x = x := by
  rw [IntKind.wrap_i64]; omega
theorem w64 {x : Int} (h : -9223372036854775808 ≤ x ∧ x ≤ 9223372036854775807) : wrap64 x = x := by
  have := wr h
  rw [IntKind.wrap_i64] at this
  unfold wrap64
  omega
theorem mid_eq {i j : Nat} (h : i + j ≤ 1000000) : wrap64 (IntKind.u64.wrap (wrap64 ((i : Int) + (j : Int))) / 2) = (((i + j) / 2 : Nat) : Int) := by
  have e : wrap64 ((i : Int) + (j : Int)) = (i : Int) + (j : Int) := w64 (by omega)
  have e2 : IntKind.u64.wrap ((i : Int) + (j : Int)) = (i : Int) + (j : Int) := by rw [IntKind.wrap_u64]; omega
  rw [e, e2, w64 (by omega)]
  omega
end Go.Proofs.YtgoolkgjcmdilaaDoor
end
section
namespace Go.Proofs.YtgoolkgjcmdilaaDoor
open Go.RowKit
set_option linter.unusedVariables false
section
variable {P : Program}
/-- copy, of elements of k cells, one over the other too. -/
theorem run_copy_k (w : World) (dT sT ty elem : TypeId) (k g o dLen dCap : Nat) (a : Addr) (sLen sCap : Nat) (cur : Array Value) (t : TypeId) (cs : List Value)
    (hu : P.underlying dT = some (.slice elem)) (hs : (P.info? elem).map (·.size) = some k)
    (hg : w.heap[g]? = some (.cells cur t (0, 0))) (hn : cs.length = Nat.min sLen dLen * k)
    (hsrc : ∀ j v, cs[j]? = some v → w.cell? (a.add j) = some v) (hfit : o + cs.length ≤ cur.size) (h1 : ∀ v ∈ cs, v.oneCell' = true) :
    (Builtin.copy_ #[dT, sT] ty #[.slice (some ⟨g, o, none⟩) dLen dCap, .slice (some a) sLen sCap]).run P w =
      .ok (goInt (Nat.min sLen dLen)) (w.setRow g (cur.toList.take o ++ cs ++ cur.toList.drop (o + cs.length)).toArray) := by
  have hl := run_loadCells_list (P := P) w a cs hsrc
  have hst := run_storeCells_at P g o t cs 0 cur w hg (by simpa using hfit) h1
  cases hq : P.info? elem with
  | none => simp [hq] at hs
  | some i =>
    have hi : i.size = k := by simpa [hq] using hs
    simp [Builtin.copy_, run_underlying hu, Builtin.lenOf, Builtin.firstCells, sizeOf, typeInfo, hq, hi, ← hn, hl, hst]
theorem wpList_copyR (w : World) {ops : Array Oper} {rest : List Oper} {o : Oper} {a : Act} {Q : Exit → Act → World → Prop} (hgd : o.guard = none) (d s : Operand) (t t' : TypeId)
    (ho : o.op = .call { callee := .builtin .copy, args := #[d, s], argTypes := #[t, t'] }) (v u : Value) (hd : a.eval d = v) (hs : a.eval s = u) {v' : Value} {w' : World}
    (hr : (Builtin.copy_ #[t, t'] o.type #[v, u]).run P w = .ok v' w') (h : wpList P ops Q rest (a.put o.dst v') w') : wpList P ops Q (o :: rest) a w := by
  refine wpList_plain hgd fun K hK => ?_
  unfold Oper.wp execOp
  simp only [ho, resolve, invoke, builtin, Sem.run_bind, Sem.run_pure, Result.andThen_ok, List.map_toArray, List.map_cons, List.map_nil, hd, hs, hr]
  exact hK _ _ h
theorem wpList_appR (w : World) {ops : Array Oper} {rest : List Oper} {o : Oper} {a : Act} {Q : Exit → Act → World → Prop} (hgd : o.guard = none) (d s : Operand) (t t' : TypeId)
    (ho : o.op = .call { callee := .builtin .append, args := #[d, s], argTypes := #[t, t'] }) (v u : Value) (hd : a.eval d = v) (hs : a.eval s = u) {v' : Value} {w' : World}
    (hr : (Builtin.append_ #[t, t'] o.type #[v, u]).run P w = .ok v' w') (h : wpList P ops Q rest (a.put o.dst v') w') : wpList P ops Q (o :: rest) a w := by
  refine wpList_plain hgd fun K hK => ?_
  unfold Oper.wp execOp
  simp only [ho, resolve, invoke, builtin, Sem.run_bind, Sem.run_pure, Result.andThen_ok, List.map_toArray, List.map_cons, List.map_nil, hd, hs, hr]
  exact hK _ _ h
theorem step_copyR {ops : Array Oper} {o : Oper} {a : Act} {w : World} {K : Act → World → Prop} {Q : Exit → Act → World → Prop} {E : Prop}
    (hg : o.guard = none) (d x : Operand) (dT sT : TypeId) (hop : o.op = Op.call { callee := Callee.builtin Builtin.copy, args := #[d, x], argTypes := #[dT, sT] })
    (v u : Value) (hd : a.eval d = v) (hx : a.eval x = u) {v' : Value} {w' : World} (hr : (Builtin.copy_ #[dT, sT] o.type #[v, u]).run P w = .ok v' w') (hK : K (a.put o.dst v') w') :
    if Region.wanted o (yielded ops a.tmps) = true then Oper.wp P o a w K Q else E := by
  have hw : Region.wanted o (yielded ops a.tmps) = true := by simp [Region.wanted, hg]
  rw [if_pos hw]
  unfold Oper.wp
  simp [execOp, hop, resolve, invoke, builtin, hd, hx, hr, Result.andThen]
  exact hK
theorem step_appR {ops : Array Oper} {o : Oper} {a : Act} {w : World} {K : Act → World → Prop} {Q : Exit → Act → World → Prop} {E : Prop}
    (hg : o.guard = none) (d x : Operand) (dT sT : TypeId) (hop : o.op = Op.call { callee := Callee.builtin Builtin.append, args := #[d, x], argTypes := #[dT, sT] })
    (v u : Value) (hd : a.eval d = v) (hx : a.eval x = u) {v' : Value} {w' : World} (hr : (Builtin.append_ #[dT, sT] o.type #[v, u]).run P w = .ok v' w') (hK : K (a.put o.dst v') w') :
    if Region.wanted o (yielded ops a.tmps) = true then Oper.wp P o a w K Q else E := by
  have hw : Region.wanted o (yielded ops a.tmps) = true := by simp [Region.wanted, hg]
  rw [if_pos hw]
  unfold Oper.wp
  simp [execOp, hop, resolve, invoke, builtin, hd, hx, hr, Result.andThen]
  exact hK
end
/-- What a row holds when its rest has been moved up by a place. -/
def up1 (cur xs : List Value) (p K : Nat) : List Value := cur.take (p + K) ++ xs.drop p ++ cur.drop (p + K + (xs.drop p).length)
def up2 (cur xs vs : List Value) (p K : Nat) : List Value := (up1 cur xs p K).take p ++ vs ++ (up1 cur xs p K).drop (p + vs.length)
theorem up1_len {cur xs : List Value} {p K : Nat} (hp : p ≤ xs.length) (h2 : xs.length + K ≤ cur.length) : (up1 cur xs p K).length = cur.length := by
  simp [up1]; omega
theorem up2_len {cur xs vs : List Value} {p K : Nat} (hp : p ≤ xs.length) (h2 : xs.length + K ≤ cur.length) (hv : vs.length = K) : (up2 cur xs vs p K).length = cur.length := by
  have := up1_len hp h2
  simp [up2, this]; omega
theorem up2_take {cur xs vs : List Value} {p K : Nat} (hp : p ≤ xs.length) (h1 : cur.take xs.length = xs) (h2 : xs.length + K ≤ cur.length) (hv : vs.length = K) :
    (up2 cur xs vs p K).take (xs.length + K) = xs.take p ++ vs ++ xs.drop p := by
  have e1 : (up1 cur xs p K).take p = xs.take p := by
    unfold up1
    rw [List.append_assoc, List.take_append_of_le_length (by simp; omega), List.take_take, Nat.min_eq_left (by omega)]
    conv => rhs; rw [← h1, List.take_take, Nat.min_eq_left hp]
  have e2 : (up1 cur xs p K).drop (p + K) = xs.drop p ++ cur.drop (p + K + (xs.drop p).length) := by
    unfold up1
    rw [List.append_assoc, List.drop_append_of_le_length (by simp; omega), List.drop_of_length_le (by simp; omega), List.nil_append]
  unfold up2
  rw [hv, e1, e2, ← List.append_assoc, List.take_append_of_le_length (by simp; omega), List.take_of_length_le (by simp; omega)]
/-- A new row: what stood ahead, what is put in, what stood behind. -/
def new1 (xs vs zs : List Value) (p : Nat) : List Value := (xs.take p ++ zs).take p ++ vs ++ (xs.take p ++ zs).drop (p + vs.length)
def new2 (xs vs zs : List Value) (p : Nat) : List Value := (new1 xs vs zs p).take (p + vs.length) ++ xs.drop p ++ (new1 xs vs zs p).drop (p + vs.length + (xs.drop p).length)
theorem new1_len {xs vs zs : List Value} {p : Nat} (hp : p ≤ xs.length) (h2 : (xs.drop p).length + vs.length ≤ zs.length) : (new1 xs vs zs p).length = p + zs.length := by
  simp [new1] at *; omega
theorem new2_len {xs vs zs : List Value} {p : Nat} (hp : p ≤ xs.length) (h2 : (xs.drop p).length + vs.length ≤ zs.length) : (new2 xs vs zs p).length = p + zs.length := by
  have := new1_len hp h2
  simp [new2, this] at *; omega
theorem new2_take {xs vs zs : List Value} {p : Nat} (hp : p ≤ xs.length) (h2 : (xs.drop p).length + vs.length ≤ zs.length) :
    (new2 xs vs zs p).take (xs.length + vs.length) = xs.take p ++ vs ++ xs.drop p := by
  have e1 : (new1 xs vs zs p).take (p + vs.length) = xs.take p ++ vs := by
    unfold new1
    rw [List.take_append_of_le_length (by simp; omega), List.take_of_length_le (by simp; omega), List.take_append_of_le_length (by simp; omega), List.take_of_length_le (by simp; omega)]
  unfold new2
  rw [e1, List.take_append_of_le_length (by simp; omega), List.take_of_length_le (by simp; omega)]
/-- A row where an element has been taken out: the rest moved down; then what is left over is made zero. -/
def del1 (cur xs : List Value) (p q : Nat) : List Value := cur.take p ++ xs.drop q ++ cur.drop (p + (xs.drop q).length)
def del2 (cur xs zs : List Value) (p q m : Nat) : List Value := (del1 cur xs p q).take m ++ zs ++ (del1 cur xs p q).drop (m + zs.length)
theorem del1_len {cur xs : List Value} {p q : Nat} (hpq : p ≤ q) (hq : q ≤ xs.length) (h2 : xs.length ≤ cur.length) : (del1 cur xs p q).length = cur.length := by
  simp [del1]; omega
theorem del2_len {cur xs zs : List Value} {p q m : Nat} (hpq : p ≤ q) (hq : q ≤ xs.length) (h2 : xs.length ≤ cur.length) (hm : m + zs.length ≤ cur.length) : (del2 cur xs zs p q m).length = cur.length := by
  have := del1_len hpq hq h2
  simp [del2, this]; omega
theorem del2_take {cur xs zs : List Value} {p q : Nat} (hpq : p ≤ q) (hq : q ≤ xs.length) (h1 : cur.take xs.length = xs) (h2 : xs.length ≤ cur.length) :
    (del2 cur xs zs p q (p + (xs.drop q).length)).take (p + (xs.drop q).length) = xs.take p ++ xs.drop q := by
  have e1 : (del1 cur xs p q).take (p + (xs.drop q).length) = xs.take p ++ xs.drop q := by
    unfold del1
    rw [List.take_append_of_le_length (by simp; omega), List.take_of_length_le (by simp; omega)]
    have hp : p ≤ xs.length := by omega
    have e0 : cur.take p = xs.take p := by conv => rhs; rw [← h1, List.take_take, Nat.min_eq_left hp]
    rw [e0]
  unfold del2
  rw [e1, List.append_assoc, List.take_append_of_le_length (by simp; omega), List.take_of_length_le (by simp; omega)]
end Go.Proofs.YtgoolkgjcmdilaaDoor
end
section
namespace Go.Proofs.YtgoolkgjcmdilaaDoor
open Go.RowKit
set_option linter.unusedVariables false
section
variable {P : Program} {ops : Array Oper} {Q : Exit → Act → World → Prop} {md : Region.Mode}
/-- How many are still to be done. -/
def todo (L : Array Bool) : Nat := L.toList.count false
theorem todo_set {L : Array Bool} {i : Nat} (h : L.getD i true = false) : todo (L.setIfInBounds i true) + 1 = todo L := by
  have hi : i < L.size := by
    rcases Nat.lt_or_ge i L.size with c | c
    · exact c
    · simp [Array.getElem?_eq_none c] at h
  have hb : L[i] = false := by simpa [hi] using h
  unfold todo
  rw [Array.toList_setIfInBounds]
  have hl : L.toList[i]'(by simpa using hi) = false := by simpa using hb
  have hc := List.count_set (l := L.toList) (a := true) (b := false) (i := i) (by simpa using hi)
  have hp : 0 < L.toList.count false := List.count_pos_iff.2 (by rw [← hl]; exact List.getElem_mem _)
  rw [hc, hl, if_pos (by decide), if_neg (by decide)]
  omega
theorem wpAny_inv {I : Array Bool → Act → World → Prop}
    (hstep : ∀ L a w i, I L a w → L.size = ops.size → i ∈ Region.ready md ops L → wpOp P ops Q i (I (L.setIfInBounds i true)) a w)
    (hend : ∀ L a w, I L a w → L.size = ops.size → Region.ready md ops L = [] → Q .normal a w) :
    ∀ (fuel : Nat) (L : Array Bool) (a : Act) (w : World), I L a w → L.size = ops.size → todo L ≤ fuel → wpAny P md ops Q fuel L a w
  | 0, L, a, w, hI, hs, ht => by
    have hr : Region.ready md ops L = [] := by
      refine List.eq_nil_iff_forall_not_mem.2 fun i hi => ?_
      have := todo_set (mem_ready.1 hi).1
      omega
    exact ⟨hr, hend L a w hI hs hr⟩
  | fuel + 1, L, a, w, hI, hs, ht => by
    refine ⟨fun hr => hend L a w hI hs hr, fun i hi => ?_⟩
    have := todo_set (mem_ready.1 hi).1
    exact wpOp_mono (fun a' w' h => wpAny_inv hstep hend fuel _ a' w' h (by simpa using hs) (by omega)) (hstep L a w i hI hs hi)
end
end Go.Proofs.YtgoolkgjcmdilaaDoor
end
