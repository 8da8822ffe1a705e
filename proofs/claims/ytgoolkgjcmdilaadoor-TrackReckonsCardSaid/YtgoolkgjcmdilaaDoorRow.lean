/-
  Laws of rows whose elements take several cells: copy, insertion. No statement about the program stands here.
-/
import Derived.Test.YtgoolkgjcmdilaaDoorTabP
import Derived.Laws.CopyRow
import Derived.Laws.Externs
import Derived.Lib.Overlaps
import Derived.Lib.AppendZerosOnto
namespace Go.Proofs.YtgoolkgjcmdilaaDoor
open Go.RowKit
set_option linter.unusedVariables false

section
variable {P : Program}
/-- copy, of elements of k cells, one over the other too. -/
theorem run_copy_k (w : World) (dT sT ty elem : TypeId) (k g o dLen dCap : Nat) (a : Addr) (sLen sCap : Nat) (cur : Array Value) (t : TypeId) (cs : List Value)
    (hu : P.underlying dT = some (.slice elem)) (hs : (P.info? elem).map (·.size) = some k)
    (hg : w.heap[g]? = some (.cells cur t (0, 0))) (hn : cs.length = Nat.min sLen dLen * k)
    (hsrc : ∀ j v, cs[j]? = some v → w.cell? (a.add j) = some v) (hfit : o + cs.length ≤ cur.size) (h1 : ∀ v ∈ cs, v.oneCell' = true) :
    (Builtin.copy_ #[dT, sT] ty #[.slice (some ⟨g, o, none⟩) dLen dCap, .slice (some a) sLen sCap]).run P w =
      .ok (goInt (Nat.min sLen dLen)) (w.setRow g (cur.toList.take o ++ cs ++ cur.toList.drop (o + cs.length)).toArray) := by
  have hl := run_loadCells_list (P := P) w a cs hsrc
  have hst := run_storeCells_at P g o t cs 0 cur w hg (by simpa using hfit) h1
  cases hq : P.info? elem with
  | none => simp [hq] at hs
  | some i =>
    have hi : i.size = k := by simpa [hq] using hs
    simp [Builtin.copy_, run_underlying hu, Builtin.lenOf, Builtin.firstCells, sizeOf, typeInfo, hq, hi, ← hn, hl, hst]
theorem wpList_copyR (w : World) {ops : Array Oper} {rest : List Oper} {o : Oper} {a : Act} {Q : Exit → Act → World → Prop} (hgd : o.guard = none) (d s : Operand) (t t' : TypeId)
    (ho : o.op = .call { callee := .builtin .copy, args := #[d, s], argTypes := #[t, t'] }) (v u : Value) (hd : a.eval d = v) (hs : a.eval s = u) {v' : Value} {w' : World}
    (hr : (Builtin.copy_ #[t, t'] o.type #[v, u]).run P w = .ok v' w') (h : wpList P ops Q rest (a.put o.dst v') w') : wpList P ops Q (o :: rest) a w := by
  refine wpList_plain hgd fun K hK => ?_
  unfold Oper.wp execOp
  simp only [ho, resolve, invoke, builtin, Sem.run_bind, Sem.run_pure, Result.andThen_ok, List.map_toArray, List.map_cons, List.map_nil, hd, hs, hr]
  exact hK _ _ h
theorem wpList_appR (w : World) {ops : Array Oper} {rest : List Oper} {o : Oper} {a : Act} {Q : Exit → Act → World → Prop} (hgd : o.guard = none) (d s : Operand) (t t' : TypeId)
    (ho : o.op = .call { callee := .builtin .append, args := #[d, s], argTypes := #[t, t'] }) (v u : Value) (hd : a.eval d = v) (hs : a.eval s = u) {v' : Value} {w' : World}
    (hr : (Builtin.append_ #[t, t'] o.type #[v, u]).run P w = .ok v' w') (h : wpList P ops Q rest (a.put o.dst v') w') : wpList P ops Q (o :: rest) a w := by
  refine wpList_plain hgd fun K hK => ?_
  unfold Oper.wp execOp
  simp only [ho, resolve, invoke, builtin, Sem.run_bind, Sem.run_pure, Result.andThen_ok, List.map_toArray, List.map_cons, List.map_nil, hd, hs, hr]
  exact hK _ _ h
theorem step_copyR {ops : Array Oper} {o : Oper} {a : Act} {w : World} {K : Act → World → Prop} {Q : Exit → Act → World → Prop} {E : Prop}
    (hg : o.guard = none) (d x : Operand) (dT sT : TypeId) (hop : o.op = Op.call { callee := Callee.builtin Builtin.copy, args := #[d, x], argTypes := #[dT, sT] })
    (v u : Value) (hd : a.eval d = v) (hx : a.eval x = u) {v' : Value} {w' : World} (hr : (Builtin.copy_ #[dT, sT] o.type #[v, u]).run P w = .ok v' w') (hK : K (a.put o.dst v') w') :
    if Region.wanted o (yielded ops a.tmps) = true then Oper.wp P o a w K Q else E := by
  have hw : Region.wanted o (yielded ops a.tmps) = true := by simp [Region.wanted, hg]
  rw [if_pos hw]
  unfold Oper.wp
  simp [execOp, hop, resolve, invoke, builtin, hd, hx, hr, Result.andThen]
  exact hK
theorem step_appR {ops : Array Oper} {o : Oper} {a : Act} {w : World} {K : Act → World → Prop} {Q : Exit → Act → World → Prop} {E : Prop}
    (hg : o.guard = none) (d x : Operand) (dT sT : TypeId) (hop : o.op = Op.call { callee := Callee.builtin Builtin.append, args := #[d, x], argTypes := #[dT, sT] })
    (v u : Value) (hd : a.eval d = v) (hx : a.eval x = u) {v' : Value} {w' : World} (hr : (Builtin.append_ #[dT, sT] o.type #[v, u]).run P w = .ok v' w') (hK : K (a.put o.dst v') w') :
    if Region.wanted o (yielded ops a.tmps) = true then Oper.wp P o a w K Q else E := by
  have hw : Region.wanted o (yielded ops a.tmps) = true := by simp [Region.wanted, hg]
  rw [if_pos hw]
  unfold Oper.wp
  simp [execOp, hop, resolve, invoke, builtin, hd, hx, hr, Result.andThen]
  exact hK
end

/-! ### lists -/
/-- What a row holds when its rest has been moved up by a place. -/
def up1 (cur xs : List Value) (p K : Nat) : List Value := cur.take (p + K) ++ xs.drop p ++ cur.drop (p + K + (xs.drop p).length)
def up2 (cur xs vs : List Value) (p K : Nat) : List Value := (up1 cur xs p K).take p ++ vs ++ (up1 cur xs p K).drop (p + vs.length)
theorem up1_len {cur xs : List Value} {p K : Nat} (hp : p ≤ xs.length) (h2 : xs.length + K ≤ cur.length) : (up1 cur xs p K).length = cur.length := by
  simp [up1]; omega
theorem up2_len {cur xs vs : List Value} {p K : Nat} (hp : p ≤ xs.length) (h2 : xs.length + K ≤ cur.length) (hv : vs.length = K) : (up2 cur xs vs p K).length = cur.length := by
  have := up1_len hp h2
  simp [up2, this]; omega
theorem up2_take {cur xs vs : List Value} {p K : Nat} (hp : p ≤ xs.length) (h1 : cur.take xs.length = xs) (h2 : xs.length + K ≤ cur.length) (hv : vs.length = K) :
    (up2 cur xs vs p K).take (xs.length + K) = xs.take p ++ vs ++ xs.drop p := by
  have e1 : (up1 cur xs p K).take p = xs.take p := by
    unfold up1
    rw [List.append_assoc, List.take_append_of_le_length (by simp; omega), List.take_take, Nat.min_eq_left (by omega)]
    conv => rhs; rw [← h1, List.take_take, Nat.min_eq_left hp]
  have e2 : (up1 cur xs p K).drop (p + K) = xs.drop p ++ cur.drop (p + K + (xs.drop p).length) := by
    unfold up1
    rw [List.append_assoc, List.drop_append_of_le_length (by simp; omega), List.drop_of_length_le (by simp; omega), List.nil_append]
  unfold up2
  rw [hv, e1, e2, ← List.append_assoc, List.take_append_of_le_length (by simp; omega), List.take_of_length_le (by simp; omega)]
/-- A new row: what stood ahead, what is put in, what stood behind. -/
def new1 (xs vs zs : List Value) (p : Nat) : List Value := (xs.take p ++ zs).take p ++ vs ++ (xs.take p ++ zs).drop (p + vs.length)
def new2 (xs vs zs : List Value) (p : Nat) : List Value := (new1 xs vs zs p).take (p + vs.length) ++ xs.drop p ++ (new1 xs vs zs p).drop (p + vs.length + (xs.drop p).length)
theorem new1_len {xs vs zs : List Value} {p : Nat} (hp : p ≤ xs.length) (h2 : (xs.drop p).length + vs.length ≤ zs.length) : (new1 xs vs zs p).length = p + zs.length := by
  simp [new1] at *; omega
theorem new2_len {xs vs zs : List Value} {p : Nat} (hp : p ≤ xs.length) (h2 : (xs.drop p).length + vs.length ≤ zs.length) : (new2 xs vs zs p).length = p + zs.length := by
  have := new1_len hp h2
  simp [new2, this] at *; omega
theorem new2_take {xs vs zs : List Value} {p : Nat} (hp : p ≤ xs.length) (h2 : (xs.drop p).length + vs.length ≤ zs.length) :
    (new2 xs vs zs p).take (xs.length + vs.length) = xs.take p ++ vs ++ xs.drop p := by
  have e1 : (new1 xs vs zs p).take (p + vs.length) = xs.take p ++ vs := by
    unfold new1
    rw [List.take_append_of_le_length (by simp; omega), List.take_of_length_le (by simp; omega), List.take_append_of_le_length (by simp; omega), List.take_of_length_le (by simp; omega)]
  unfold new2
  rw [e1, List.take_append_of_le_length (by simp; omega), List.take_of_length_le (by simp; omega)]
/-- A row where an element has been taken out: the rest moved down; then what is left over is made zero. -/
def del1 (cur xs : List Value) (p q : Nat) : List Value := cur.take p ++ xs.drop q ++ cur.drop (p + (xs.drop q).length)
def del2 (cur xs zs : List Value) (p q m : Nat) : List Value := (del1 cur xs p q).take m ++ zs ++ (del1 cur xs p q).drop (m + zs.length)
theorem del1_len {cur xs : List Value} {p q : Nat} (hpq : p ≤ q) (hq : q ≤ xs.length) (h2 : xs.length ≤ cur.length) : (del1 cur xs p q).length = cur.length := by
  simp [del1]; omega
theorem del2_len {cur xs zs : List Value} {p q m : Nat} (hpq : p ≤ q) (hq : q ≤ xs.length) (h2 : xs.length ≤ cur.length) (hm : m + zs.length ≤ cur.length) : (del2 cur xs zs p q m).length = cur.length := by
  have := del1_len hpq hq h2
  simp [del2, this]; omega
theorem del2_take {cur xs zs : List Value} {p q : Nat} (hpq : p ≤ q) (hq : q ≤ xs.length) (h1 : cur.take xs.length = xs) (h2 : xs.length ≤ cur.length) :
    (del2 cur xs zs p q (p + (xs.drop q).length)).take (p + (xs.drop q).length) = xs.take p ++ xs.drop q := by
  have e1 : (del1 cur xs p q).take (p + (xs.drop q).length) = xs.take p ++ xs.drop q := by
    unfold del1
    rw [List.take_append_of_le_length (by simp; omega), List.take_of_length_le (by simp; omega)]
    have hp : p ≤ xs.length := by omega
    have e0 : cur.take p = xs.take p := by conv => rhs; rw [← h1, List.take_take, Nat.min_eq_left hp]
    rw [e0]
  unfold del2
  rw [e1, List.append_assoc, List.take_append_of_le_length (by simp; omega), List.take_of_length_le (by simp; omega)]
end Go.Proofs.YtgoolkgjcmdilaaDoor
