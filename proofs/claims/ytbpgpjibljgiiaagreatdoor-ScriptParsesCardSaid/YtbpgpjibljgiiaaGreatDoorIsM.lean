/-
  Script: errors.As at a target of type **Fault (turned to this seat from the kit's worked toy toyas).
  errors.Is of a fault and a code; the statement's own is.
  Script: errors.As at what Parse answers; faulted.
  The statement's is: an error is just this fault. Printed by genIs.py.
-/
import Derived.Test.YtbpgpjibljgiiaaGreatDoorBaseM
import Derived.Test.YtbpgpjibljgiiaaGreatDoorProg
import Derived.WalkKit
import Derived.LaidEql
import Derived.Stop.Asserts
import Derived.RowKitTokens
import Derived.Lib.IfaceEq
import Derived.Test.YtbpgpjibljgiiaaGreatDoorParB
namespace Go.Proofs.YtbpgpjibljgiiaaGreatDoor
open Go.RowKit Go.Extern.Stop Go.Stop Go.Extern

/-- errors.As(nil, target). -/
theorem as_nil (t : Value) (w : World) :
    Calls Tryz.prog 20 #[.nilIface, t] w fun e w' => e = .returned (.bool false) ∧ w' = w := by
  go_enter Tryz.func20, Tryz.ntmps20
  go_wp2
  go_ret
  exact ⟨rfl, rfl⟩

/-! ### CLOSED FACTS ON THE MODEL's ENTRIES FOR internal/reflectlite, at this program's types: 25: *p.E · 27: **p.E · 23: error · 45: reflectlite's rtype · 1: how many package-level variables the dump has -/
theorem Tryz.valueOf27 (t : Addr) (w : World) : (ReflectliteValue.unpack (.iface 68 (.pointer (some t)))).run Tryz.prog w
    = .ok (.agg #[.pointer (some ⟨7, 68, none⟩), .pointer (some ⟨w.heap.size, 0, none⟩), .int .u64 150]) (w.alloc (.cells #[.pointer (some t)] 68)) := by kernel_rfl
theorem Tryz.type27 (a : Addr) (w : World) : (ReflectliteValue.methodAny (ReflectliteValue.valueError "reflectlite.Value.Type" 0) (fun t _ _ _ => ReflectliteType.toType t) #[.agg #[.pointer (some ⟨7, 68, none⟩), .pointer (some a), .int .u64 150]]).run Tryz.prog w
    = .ok (.iface 141 (.agg #[.pointer (some ⟨7, 68, none⟩)])) w := by kernel_rfl
theorem Tryz.methodKind (h : Value) (w : World) : (Go.method 310 141 (.agg #[h]) "Kind").run Tryz.prog w = .ok (111, h) w := by kernel_rfl
theorem Tryz.kind27 (w : World) : ((ReflectliteType.abiMethod fun t => (fun a : Nat => Value.int IntKind.u8 (a : Int)) <$> Rtype.kind t) #[.pointer (some ⟨7, 68, none⟩)]).run Tryz.prog w = .ok (.int .u8 22) w := by kernel_rfl
theorem Tryz.kind25 (w : World) : ((ReflectliteType.abiMethod fun t => (fun a : Nat => Value.int IntKind.u8 (a : Int)) <$> Rtype.kind t) #[.pointer (some ⟨7, 42, none⟩)]).run Tryz.prog w = .ok (.int .u8 22) w := by kernel_rfl

/-! ### THE ENTRIES THAT READ OR WRITE MEMORY: laws with a premise on the cell (after Derived/Lib/ReflectliteSlice.lean's manner: each unfolding a lemma of its own, by rfl) -/
theorem rlm (z : Sem Value) (f : TypeId → Addr → Nat → Nat → Sem Value) (v : Value) :
    ReflectliteValue.method z f #[v] = (do match ← ReflectliteValue.parts v with | none => z | some (t, a, fl) => f t a fl (fl % 32)) := rfl
theorem Tryz.parts27 (a : Addr) (w : World) : (ReflectliteValue.parts (.agg #[.pointer (some ⟨7, 68, none⟩), .pointer (some a), .int .u64 150])).run Tryz.prog w = .ok (some (68, a, 150)) w := by kernel_rfl
/-- (Value).IsNil at the Value of a **p.E that is not nil. -/
theorem Tryz.isNil27 (a p : Addr) (W : World) (ha : W.cell? a = some (.pointer (some p))) :
    (ReflectliteValue.method (ReflectliteValue.valueError "reflectlite.Value.IsNil" 0) ReflectliteValue.isNil #[.agg #[.pointer (some ⟨7, 68, none⟩), .pointer (some a), .int .u64 150]]).run Tryz.prog W = .ok (.bool false) W := by
  rw [rlm]
  simp only [Sem.run_bind, Tryz.parts27, Result.andThen]
  simp [ReflectliteValue.isNil, loadVar, isAgg, underlying, Tryz.underlying68, ha, Result.andThen]

theorem Tryz.methodElem (h : Value) (w : World) : (Go.method 310 141 (.agg #[h]) "Elem").run Tryz.prog w = .ok (124, .agg #[h]) w := by kernel_rfl
theorem Tryz.methodImplements (h : Value) (w : World) : (Go.method 310 141 (.agg #[h]) "Implements").run Tryz.prog w = .ok (125, .agg #[h]) w := by kernel_rfl
theorem Tryz.methodAssignableTo (h : Value) (w : World) : (Go.method 310 141 (.agg #[h]) "AssignableTo").run Tryz.prog w = .ok (122, .agg #[h]) w := by kernel_rfl
theorem Tryz.elem27 (w : World) : (ReflectliteType.method ReflectliteType.elem #[.agg #[.pointer (some ⟨7, 68, none⟩)]]).run Tryz.prog w = .ok (.iface 141 (.agg #[.pointer (some ⟨7, 42, none⟩)])) w := by kernel_rfl
theorem Tryz.implements25 (w : World) : (ReflectliteType.relation "Implements" ReflectliteType.implements_ #[.agg #[.pointer (some ⟨7, 42, none⟩)], .iface 141 (.agg #[.pointer (some ⟨7, 28, none⟩)])]).run Tryz.prog w = .ok (.bool true) w := by kernel_rfl
theorem Tryz.typeOf25 (v : Value) (w : World) : (ReflectliteType.typeOf #[.iface 42 v]).run Tryz.prog w = .ok (.iface 141 (.agg #[.pointer (some ⟨7, 42, none⟩)])) w := by kernel_rfl
theorem Tryz.assignable25 (w : World) : (ReflectliteType.relation "AssignableTo" ReflectliteType.assignableTo #[.agg #[.pointer (some ⟨7, 42, none⟩)], .iface 141 (.agg #[.pointer (some ⟨7, 42, none⟩)])]).run Tryz.prog w = .ok (.bool true) w := by kernel_rfl
theorem Tryz.valueOf25 (e : Addr) (w : World) : (ReflectliteValue.unpack (.iface 42 (.pointer (some e)))).run Tryz.prog w
    = .ok (.agg #[.pointer (some ⟨7, 42, none⟩), .pointer (some ⟨w.heap.size, 0, none⟩), .int .u64 150]) (w.alloc (.cells #[.pointer (some e)] 42)) := by kernel_rfl

theorem Tryz.elemOf27 (w : World) : (Rtype.elem? 68).run Tryz.prog w = .ok (some 42) w := by kernel_rfl
theorem Tryz.mk25 (p : Addr) (w : World) : (ReflectliteValue.mk 42 p ReflectliteValue.flagAddr).run Tryz.prog w = .ok (.agg #[.pointer (some ⟨7, 42, none⟩), .pointer (some p), .int .u64 406]) w := by kernel_rfl
/-- (Value).Elem at the Value of a **p.E that is not nil: the Value of the *p.E variable that it points to, addressable. -/
theorem Tryz.elemV27 (a p : Addr) (W : World) (ha : W.cell? a = some (.pointer (some p))) :
    (ReflectliteValue.method (ReflectliteValue.valueError "reflectlite.Value.Elem" 0) ReflectliteValue.elem #[.agg #[.pointer (some ⟨7, 68, none⟩), .pointer (some a), .int .u64 150]]).run Tryz.prog W
      = .ok (.agg #[.pointer (some ⟨7, 42, none⟩), .pointer (some p), .int .u64 406]) W := by
  rw [rlm]
  simp only [Sem.run_bind, Tryz.parts27, Result.andThen]
  simp [ReflectliteValue.elem, loadVar, isAgg, underlying, Tryz.underlying68, ha, Result.andThen, Tryz.elemOf27, Tryz.mk25]
theorem rls (v x : Value) : ReflectliteValue.set #[v, x] = (do
    let (some (dst, a, fl), some (src, b, _)) := (← ReflectliteValue.parts v, ← ReflectliteValue.parts x)
      | unsupported (.noEntry "extern/(internal/reflectlite.Value).Set.zeroValue")
    if fl / ReflectliteValue.flagAddr % 2 == 0 then unsupported (.noEntry "extern/(internal/reflectlite.Value).Set.unaddressable")
    let val ← loadVar src b
    if ← Rtype.directlyAssignable dst src then storeVar dst a val
    else if ← Rtype.implements dst src then
      if (← Rtype.kind src) == 20 then
        match val with
        | .nilIface => unsupported (.noEntry "extern/reflectlite: a nil value of one interface type handed on as a value of another")
        | _ => storeVar dst a val
      else storeVar dst a (.iface src val)
    else panicString ("reflectlite.Set: value of type " ++ (← Rtype.spelt src) ++ " is not assignable to type " ++ (← Rtype.spelt dst))
    pure (.tuple #[])) := rfl
theorem Tryz.parts25a (a : Addr) (w : World) : (ReflectliteValue.parts (.agg #[.pointer (some ⟨7, 42, none⟩), .pointer (some a), .int .u64 406])).run Tryz.prog w = .ok (some (42, a, 406)) w := by kernel_rfl
theorem Tryz.parts25 (a : Addr) (w : World) : (ReflectliteValue.parts (.agg #[.pointer (some ⟨7, 42, none⟩), .pointer (some a), .int .u64 150])).run Tryz.prog w = .ok (some (42, a, 150)) w := by kernel_rfl
theorem Tryz.direct25 (w : World) : (Rtype.directlyAssignable 42 42).run Tryz.prog w = .ok true w := by kernel_rfl
theorem Tryz.size25 (w : World) : (sizeOf 42).run Tryz.prog w = .ok 1 w := by kernel_rfl
/-- (Value).Set: the *p.E variable at 'ta' gets what the Value's own variable 'b' holds. -/
theorem Tryz.set25 (ta b e : Addr) (old : Value) (W : World) (hb : W.cell? b = some (.pointer (some e))) (ht : W.cell? ta = some old) (hf : W.frozen? ta = false) :
    (ReflectliteValue.set #[.agg #[.pointer (some ⟨7, 42, none⟩), .pointer (some ta), .int .u64 406], .agg #[.pointer (some ⟨7, 42, none⟩), .pointer (some b), .int .u64 150]]).run Tryz.prog W
      = .ok (.tuple #[]) (W.setCell ta (.pointer (some e))) := by
  rw [rls]
  simp only [Sem.run_bind, Tryz.parts25a, Tryz.parts25, Result.andThen]
  simp [ReflectliteValue.flagAddr, loadVar, isAgg, underlying, Tryz.underlying42, hb, Result.andThen, Tryz.direct25, storeVar, Value.cells, storeCells, Addr.add]
  rw [run_store Tryz.prog W ta _ _ (by rfl)]
  simp [ht, hf]

set_option maxRecDepth 100000 in
set_option maxHeartbeats 4000000 in
theorem as_hit (e t : Addr) (old : Value) (w : World) (hg : w.cell? ⟨0, 0, none⟩ = some (.iface 141 (.agg #[.pointer (some ⟨7, 28, none⟩)]))) (ht0 : w.cell? t = some old) (hf0 : w.frozen? t = false) :
    Calls Tryz.prog 20 #[.iface 42 (.pointer (some e)), .iface 68 (.pointer (some t))] w fun ev w' => ev = .returned (.bool true) ∧ w' = ((((w.alloc (.cells #[.pointer (some t)] 68)).alloc (.cells #[.pointer (some ⟨7, 68, none⟩), .pointer (some ⟨w.heap.size, 0, none⟩), .int .u64 150] 108)).alloc (.cells #[.pointer (some ⟨7, 68, none⟩), .pointer (some ⟨w.heap.size, 0, none⟩), .int .u64 150] 108)).alloc (.cells #[.pointer (some e)] 42)).setCell t (.pointer (some e)) := by
  have h6 := @run_callFunc_extern Tryz.prog 45 _ (fun args => ReflectliteValue.unpack (args.getD 0 (.tuple #[]))) Tryz.func45 (by kernel_rfl) (by kernel_rfl) (by kernel_rfl) (by kernel_rfl)
  have h7 := @run_callFunc_extern Tryz.prog 46 _ (ReflectliteValue.methodAny (ReflectliteValue.valueError "reflectlite.Value.Type" 0) (fun t _ _ _ => ReflectliteType.toType t)) Tryz.func46 (by kernel_rfl) (by kernel_rfl) (by kernel_rfl) (by kernel_rfl)
  have h8 := @run_callFunc_extern Tryz.prog 47 _ (ReflectliteValue.method (ReflectliteValue.valueError "reflectlite.Value.IsNil" 0) ReflectliteValue.isNil) Tryz.func47 (by kernel_rfl) (by kernel_rfl) (by kernel_rfl) (by kernel_rfl)
  have h27 := @run_callFunc_extern Tryz.prog 111 _ (ReflectliteType.abiMethod fun t => do pure (.int .u8 (← Rtype.kind t))) Tryz.func111 (by kernel_rfl) (by kernel_rfl) (by kernel_rfl) (by kernel_rfl)
  have h37 := @run_callFunc_extern Tryz.prog 124 _ (ReflectliteType.method ReflectliteType.elem) Tryz.func124 (by kernel_rfl) (by kernel_rfl) (by kernel_rfl) (by kernel_rfl)
  have h38 := @run_callFunc_extern Tryz.prog 125 _ (ReflectliteType.relation "Implements" ReflectliteType.implements_) Tryz.func125 (by kernel_rfl) (by kernel_rfl) (by kernel_rfl) (by kernel_rfl)
  have h10 := @run_callFunc_extern Tryz.prog 49 _ ReflectliteType.typeOf Tryz.func49 (by kernel_rfl) (by kernel_rfl) (by kernel_rfl) (by kernel_rfl)
  have h35 := @run_callFunc_extern Tryz.prog 122 _ (ReflectliteType.relation "AssignableTo" ReflectliteType.assignableTo) Tryz.func122 (by kernel_rfl) (by kernel_rfl) (by kernel_rfl) (by kernel_rfl)
  have h11 := @run_callFunc_extern Tryz.prog 69 _ (ReflectliteValue.method (ReflectliteValue.valueError "reflectlite.Value.Elem" 0) ReflectliteValue.elem) Tryz.func69 (by kernel_rfl) (by kernel_rfl) (by kernel_rfl) (by kernel_rfl)
  have h12 := @run_callFunc_extern Tryz.prog 70 _ ReflectliteValue.set Tryz.func70 (by kernel_rfl) (by kernel_rfl) (by kernel_rfl) (by kernel_rfl)
  have tO := Tryz.typeOf25
  have mA := Tryz.methodAssignableTo
  have a25 := Tryz.assignable25
  have v25 := Tryz.valueOf25
  have f6 := Tryz.valueOf27
  have f7 := Tryz.type27
  have mK := Tryz.methodKind
  have mE := Tryz.methodElem
  have mI := Tryz.methodImplements
  have k27 := Tryz.kind27
  have k25 := Tryz.kind25
  have e27 := Tryz.elem27
  have i25 := Tryz.implements25
  have n8 := Tryz.isNil27 ⟨w.heap.size, 0, none⟩ t ((w.alloc (.cells #[.pointer (some t)] 68)).alloc (.cells #[.pointer (some ⟨7, 68, none⟩), .pointer (some ⟨w.heap.size, 0, none⟩), .int .u64 150] 108)) (by simp)
  have hlt : 0 < w.heap.size := by
    rcases Nat.eq_zero_or_pos w.heap.size with h0 | h
    · simp [World.cell?, h0] at hg
    · exact h
  have hg2 : ((w.alloc (.cells #[.pointer (some t)] 68)).alloc (.cells #[.pointer (some ⟨7, 68, none⟩), .pointer (some ⟨w.heap.size, 0, none⟩), .int .u64 150] 108)).cell? ⟨0, 0, none⟩ = some (.iface 141 (.agg #[.pointer (some ⟨7, 28, none⟩)])) := by
    rw [World.cell?_alloc_lt _ _ ⟨0, 0, none⟩ (by simp), World.cell?_alloc_lt _ _ ⟨0, 0, none⟩ hlt]; exact hg
  have htl : t.block < w.heap.size := by
    rcases Nat.lt_or_ge t.block w.heap.size with h | h
    · exact h
    · simp [World.cell?, Array.getElem?_eq_none h] at ht0
  have el := Tryz.elemV27 ⟨w.heap.size, 0, none⟩ t (((w.alloc (.cells #[.pointer (some t)] 68)).alloc (.cells #[.pointer (some ⟨7, 68, none⟩), .pointer (some ⟨w.heap.size, 0, none⟩), .int .u64 150] 108)).alloc (.cells #[.pointer (some ⟨7, 68, none⟩), .pointer (some ⟨w.heap.size, 0, none⟩), .int .u64 150] 108)) (by rw [World.cell?_alloc_lt _ _ ⟨w.heap.size, 0, none⟩ (by simp; omega)]; simp)
  have st := Tryz.set25 t ⟨w.heap.size + 1 + 1 + 1, 0, none⟩ e old ((((w.alloc (.cells #[.pointer (some t)] 68)).alloc (.cells #[.pointer (some ⟨7, 68, none⟩), .pointer (some ⟨w.heap.size, 0, none⟩), .int .u64 150] 108)).alloc (.cells #[.pointer (some ⟨7, 68, none⟩), .pointer (some ⟨w.heap.size, 0, none⟩), .int .u64 150] 108)).alloc (.cells #[.pointer (some e)] 42))
    (by rw [World.cell?_alloc_at _ _ _ _ (by simp)]; rfl)
    (by rw [World.cell?_alloc_lt _ _ t (by simp; omega), World.cell?_alloc_lt _ _ t (by simp; omega), World.cell?_alloc_lt _ _ t (by simp; omega), World.cell?_alloc_lt _ _ t htl]; exact ht0)
    (by rw [World.frozen?_alloc_old _ _ t (by simp; omega), World.frozen?_alloc_old _ _ t (by simp; omega), World.frozen?_alloc_old _ _ t (by simp; omega), World.frozen?_alloc_old _ _ t (Nat.ne_of_lt htl)]; exact hf0)
  go_enter Tryz.func20, Tryz.ntmps20
  go_wp2
  refine wp_loop_rounds 1 ?_
  rw [rounds_succ]
  go_wp2
  go_ret
  exact ⟨rfl, rfl⟩
end Go.Proofs.YtbpgpjibljgiiaaGreatDoor
namespace Go.Proofs.YtbpgpjibljgiiaaGreatDoor
open Go.RowKit Go.Extern Go.Extern.Stop Go.Stop
set_option linter.unusedVariables false
set_option linter.unusedSimpArgs false
attribute [local go_sem] Oper.semAt_some
theorem isTypeOf (v : Value) (w : World) : (Extern.ReflectliteType.typeOf #[.iface 31 v]).run Tryz.prog w = .ok (.iface 141 (.agg #[.pointer (some ⟨7, 31, none⟩)])) w := by kernel_rfl
theorem isComparable (w : World) : ((Extern.ReflectliteType.method fun t => do Extern.Rtype.noPackHeld "Comparable" t; (fun a => Value.bool a.comparable) <$> typeInfo t) #[.agg #[.pointer (some ⟨7, 31, none⟩)]]).run Tryz.prog w = .ok (.bool true) w := by kernel_rfl
theorem isMethodComparable (v : Value) (w : World) : (Go.method 310 141 v "Comparable").run Tryz.prog w = .ok (123, v) w := by kernel_rfl
theorem noIsF (v : Value) (xT : TypeId) (w : World) : (Instr.typeAssert (.iface 42 v) xT 153 true).run Tryz.prog w = .ok (.tuple #[.nilIface, .bool false]) w := run_typeAssert_lacksB Tryz.underlying153 (by kernel_rfl) (by kernel_rfl) v xT w
theorem hasUnwrapF (v : Value) (xT : TypeId) (w : World) : (Instr.typeAssert (.iface 42 v) xT 148 true).run Tryz.prog w = .ok (.tuple #[.iface 42 v, .bool true]) w := run_typeAssert_hasB Tryz.underlying148 (by kernel_rfl) v xT w
theorem methodUnwrap (v : Value) (w : World) : (Go.method 310 42 v "Unwrap").run Tryz.prog w = .ok (116, v) w := by kernel_rfl
theorem eql_code (c : Int) (w : World) : (binOp .eql 28 (.iface 31 (.int .i64 c)) (.iface 31 (.int .i64 c))).run Tryz.prog w = .ok (.bool true) w := by
  rw [Lib.run_eql_iface_int w c c Tryz.underlying28 (by kernel_rfl) Tryz.underlying31, beq_self_eq_true]
set_option maxRecDepth 100000 in
set_option maxHeartbeats 4000000 in
theorem is_code (fb : Nat) (l f c : Int) (w : World) (h2 : w.cell? ⟨fb, 2, none⟩ = some (.int .i64 c)) :
    Calls Tryz.prog 21 #[.iface 42 (.pointer (some ⟨fb, 0, none⟩)), .iface 31 (.int .i64 c)] w fun e w' => e = .returned (.bool true) ∧ w' = w := by
  have h8 := @run_callFunc_extern Tryz.prog 49 _ Extern.ReflectliteType.typeOf Tryz.func49 (by kernel_rfl) (by kernel_rfl) (by kernel_rfl) (by kernel_rfl)
  have h32 := @run_callFunc_extern Tryz.prog 123 _ (Extern.ReflectliteType.method fun t => do Extern.Rtype.noPackHeld "Comparable" t; pure (.bool (← typeInfo t).comparable)) Tryz.func123 (by kernel_rfl) (by kernel_rfl) (by kernel_rfl) (by kernel_rfl)
  have tT := isTypeOf
  have cT := isComparable
  have mR := isMethodComparable
  have nW := noIsF
  have uW := hasUnwrapF
  have mU := methodUnwrap
  have heq := eql_code c w
  have hty := run_eql_iface_types (P := Tryz.prog) 42 31 (.pointer (some ⟨fb, 0, none⟩)) (.int .i64 c) Tryz.underlying28 (by decide) w
  go_enter Tryz.func21, Tryz.ntmps21
  go_wp2
  refine wp_loop_rounds 2 ?_
  rw [rounds_succ]
  go_wp2
  rw [rounds_succ]
  go_wp2
  go_ret
  exact ⟨rfl, rfl⟩
end Go.Proofs.YtbpgpjibljgiiaaGreatDoor
namespace Go.Proofs.YtbpgpjibljgiiaaGreatDoor
open Go.RowKit
set_option linter.unusedVariables false
set_option linter.unusedSimpArgs false
attribute [local go_sem] Oper.semAt_some
attribute [local go_sem ↓] loadVar29 storeVar29
attribute [local go_sem] run_loadScr run_storeScr
namespace Sc
def errTy : Value := .iface 141 (.agg #[.pointer (some ⟨7, 28, none⟩)])
/-- An error that is none, or a fault. -/
def ErrV (W : World) (ev : Value) : Option Flt3 → Prop
  | none => ev = .nilIface
  | some f => ∃ fb, ev = .iface 42 (.pointer (some ⟨fb, 0, none⟩)) ∧ Blk W fb #[.int .i64 f.1, .int .i64 f.2.1, .int .i64 f.2.2] 43
def errOf : Except Flt3 (List Int × List St) → Option Flt3
  | .error f => some f
  | .ok _ => none
theorem ParQ.err {n0 : Nat} {w w' : World} {R : Except Flt3 (List Int × List St)} {e : Ending} (h : ParQ n0 w R e w') : ∃ cs ev, e = .returned (.tuple #[.agg cs, ev]) ∧ scrOk cs = true ∧ ErrV w' ev (errOf R) ∧ Fr [] w w' := by
  match R, h with
  | .error f, ⟨fb, h1, h2, _, h4⟩ => exact ⟨_, _, h1, scrOk_zero, ⟨fb, rfl, h2⟩, h4⟩
  | .ok (cfg, L), ⟨v, C, h1, h2, _, h4, h5⟩ =>
    obtain ⟨p, c, rfl⟩ := own_form h4.own
    exact ⟨_, _, h1, scrC_ok h2 rfl, rfl, h5⟩
theorem ErrV.fr {W W' : World} {ev : Value} {f : Option Flt3} {S : List Nat} (h : ErrV W ev f) (g : Fr S W W') (hS : ∀ x ∈ S, ∀ {c : Array Value}, ¬ Blk W x c 43) : ErrV W' ev f := by
  match f, h with
  | none, h => exact h
  | some f, ⟨fb, h1, h2⟩ => exact ⟨fb, h1, g.blk h2 (fun hm => hS fb hm h2)⟩
theorem as_blk (w : World) (fb tb : Nat) (old : Value) (hg : w.cell? ⟨0, 0, none⟩ = some errTy) (ht : Blk w tb #[old] 42) :
    Calls Tryz.prog 20 #[.iface 42 (.pointer (some ⟨fb, 0, none⟩)), .iface 68 (.pointer (some ⟨tb, 0, none⟩))] w fun ev w' => ev = .returned (.bool true) ∧ Blk w' tb #[.pointer (some ⟨fb, 0, none⟩)] 42 ∧ Fr [tb] w w' := by
  refine (as_hit ⟨fb, 0, none⟩ ⟨tb, 0, none⟩ old w hg (ht.at 0 rfl) (ht.free 0)).mono ?_
  rintro e w' ⟨rfl, rfl⟩
  refine ⟨rfl, ?_, ?_⟩
  · exact ((((ht.alloc _).alloc _).alloc _).alloc _).set 0 _
  · exact (((((Fr.refl [tb] w).alloc _).alloc _).alloc _).alloc _).setCell _ _ (.inl (by simp))
theorem new_can (w : World) : can12 (w.alloc (.cells #[.int .i64 0, .int .i64 0, .int .i64 0, .int .i64 0, .int .i64 0, .int .i64 0, .int .i64 0, .int .i64 0, .int .i64 0, .int .i64 0, .int .i64 0, .slice none 0 0] 26)) w.heap.size = true := (Blk.new w #[.int .i64 0, .int .i64 0, .int .i64 0, .int .i64 0, .int .i64 0, .int .i64 0, .int .i64 0, .int .i64 0, .int .i64 0, .int .i64 0, .int .i64 0, .slice none 0 0] 26).can12 rfl
theorem new_lay (w : World) (cs : Array Value) : Fr [] w (layA (w.alloc (.cells #[.int .i64 0, .int .i64 0, .int .i64 0, .int .i64 0, .int .i64 0, .int .i64 0, .int .i64 0, .int .i64 0, .int .i64 0, .int .i64 0, .int .i64 0, .slice none 0 0] 26)) w.heap.size cs) := ((Fr.refl [] w).alloc _).layA _ _ (.inr (Nat.le_refl _))
theorem parse_faulted : parseP ⟨#[112, 97, 100, 100, 111, 99, 107, 32, 50, 10]⟩ = .error (1, 1, 281) := by rfl
end Sc
end Go.Proofs.YtbpgpjibljgiiaaGreatDoor
namespace Go.Proofs.YtbpgpjibljgiiaaGreatDoor
open Go.RowKit
set_option linter.unusedVariables false
set_option linter.unusedSimpArgs false
attribute [local go_sem] Oper.semAt_some
namespace Sc
set_option maxRecDepth 100000 in
set_option maxHeartbeats 4000000 in
theorem is_none (w : World) (l f : Int) : Calls Tryz.prog 6 #[.nilIface, .agg #[.int .i64 l, .int .i64 f, .int .i64 0]] w fun e w' => e = .returned (.bool true) ∧ Fr [] w w' := by
  go_enter Tryz.func6, Tryz.ntmps6
  go_wp2
  go_ret
  exact ⟨rfl, (Fr.refl _ _).alloc _⟩
set_option maxRecDepth 100000 in
set_option maxHeartbeats 8000000 in
theorem is_fault (w : World) (fb : Nat) (l f c : Int) (hc : c ≠ 0) (hb : Blk w fb #[.int .i64 l, .int .i64 f, .int .i64 c] 43) (hg : w.cell? ⟨0, 0, none⟩ = some errTy) :
    Calls Tryz.prog 6 #[.iface 42 (.pointer (some ⟨fb, 0, none⟩)), .agg #[.int .i64 l, .int .i64 f, .int .i64 c]] w fun e w' => e = .returned (.bool true) ∧ Fr [] w w' := by
  have z1 : (c == 0) = false := by rw [beq_eq_false_iff_ne]; exact hc
  have HB := Lib.hid hb
  have HG := Lib.hid (show ∀ W, Fr [] w W → W.cell? ⟨0, 0, none⟩ = some errTy from fun W f => (f.cell (World.block_lt_of_cell? w _ hg) (by simp)).trans hg)
  obtain ⟨xb, hxb⟩ : ∃ xb, xb = w.heap.size := ⟨_, rfl⟩
  obtain ⟨w1, hw1⟩ : ∃ w1, w.alloc (.cells #[.int .i64 l, .int .i64 f, .int .i64 c] 33) = w1 := ⟨_, rfl⟩
  have hx1 : Blk w1 xb #[.int .i64 l, .int .i64 f, .int .i64 c] 33 := by rw [← hw1]; exact Blk.new_at hxb _ _
  have f01 : Fr [] w w1 := by rw [← hw1]; exact (Fr.refl _ _).alloc _
  obtain ⟨tb, htb⟩ : ∃ tb, tb = w1.heap.size := ⟨_, rfl⟩
  obtain ⟨w2, hw2⟩ : ∃ w2, w1.alloc (.cells #[.pointer none] 42) = w2 := ⟨_, rfl⟩
  have f12 : Fr [] w1 w2 := by rw [← hw2]; exact (Fr.refl _ _).alloc _
  have ht2 : Blk w2 tb #[.pointer none] 42 := by rw [← hw2]; exact Blk.new_at htb _ _
  have HL := Lib.hid (show w.heap.size ≤ tb ∧ fb ≠ tb ∧ xb ≠ tb from ⟨by have := f01.size; omega, by have := hb.lt; have := f01.size; omega, by have := hx1.lt; omega⟩)
  have H2 := Lib.hid (show Blk w2 tb #[.pointer none] 42 ∧ Blk w2 fb #[.int .i64 l, .int .i64 f, .int .i64 c] 43 ∧ Blk w2 xb #[.int .i64 l, .int .i64 f, .int .i64 c] 33 ∧ Fr [] w w2 from ⟨ht2, (f01.trans f12 (by simp)).blk hb (by simp), f12.blk hx1 (by simp), f01.trans f12 (by simp)⟩)
  have HW1 := Lib.hid (And.intro hw1 hxb)
  have HW2 := Lib.hid (And.intro hw2 htb)
  have cx2 := hx1.at 2 (v := .int .i64 c) rfl
  have HAS := Lib.hid (as_blk w2 fb tb _ (HG.out w2 H2.out.2.2.2) H2.out.1)
  clear hc hb hg hw1 hxb hx1 f01 htb hw2 f12 ht2
  go_enter Tryz.func6, Tryz.ntmps6
  go_upto_region 1 with fail
  rw [HW1.out.1, ← HW1.out.2]
  go_upto_region 4 with fail
  rw [HW2.out.1, ← HW2.out.2]
  clear cx2
  go_wp2_with fail
  (with_reducible refine HAS.out.mono ?_)
  rintro e w3 ⟨rfl, ht3, f3⟩
  have HW3 := Lib.hid (show Fr [] w w3 from H2.out.2.2.2.trans f3 (fun x hx => .inr (by simp at hx; subst hx; exact HL.out.1)))
  have H3 := Lib.hid (show Blk w3 tb #[.pointer (some ⟨fb, 0, none⟩)] 42 ∧ Blk w3 fb #[.int .i64 l, .int .i64 f, .int .i64 c] 43 ∧ Blk w3 xb #[.int .i64 l, .int .i64 f, .int .i64 c] 33 from ⟨ht3, f3.blk H2.out.2.1 (by have := HL.out.2.1; simpa using this), f3.blk H2.out.2.2.1 (by have := HL.out.2.2; simpa using this)⟩)
  have ct := ht3.at 0 (v := .pointer (some ⟨fb, 0, none⟩)) rfl
  have HT0 := Lib.hid (show ∀ W, Fr [] w3 W → W.cell? ⟨tb, 0, none⟩ = some (.pointer (some ⟨fb, 0, none⟩)) from fun W g => (g.blk H3.out.1 (by simp)).at 0 rfl)
  have HF0 := Lib.hid (show ∀ W, Fr [] w3 W → W.cell? ⟨fb, 0, none⟩ = some (.int .i64 l) from fun W g => (g.blk H3.out.2.1 (by simp)).at 0 rfl)
  have HF1 := Lib.hid (show ∀ W, Fr [] w3 W → W.cell? ⟨fb, 1, none⟩ = some (.int .i64 f) from fun W g => (g.blk H3.out.2.1 (by simp)).at 1 rfl)
  have HF2 := Lib.hid (show ∀ W, Fr [] w3 W → W.cell? ⟨fb, 2, none⟩ = some (.int .i64 c) from fun W g => (g.blk H3.out.2.1 (by simp)).at 2 rfl)
  have HX0 := Lib.hid (show ∀ W, Fr [] w3 W → W.cell? ⟨xb, 0, none⟩ = some (.int .i64 l) from fun W g => (g.blk H3.out.2.2 (by simp)).at 0 rfl)
  have HX1 := Lib.hid (show ∀ W, Fr [] w3 W → W.cell? ⟨xb, 1, none⟩ = some (.int .i64 f) from fun W g => (g.blk H3.out.2.2 (by simp)).at 1 rfl)
  have HX2 := Lib.hid (show ∀ W, Fr [] w3 W → W.cell? ⟨xb, 2, none⟩ = some (.int .i64 c) from fun W g => (g.blk H3.out.2.2 (by simp)).at 2 rfl)
  clear ht3 f3
  go_wp2_with fail
  refine region_grow (by kernel_rfl) (by kernel_rfl) [.is (.pointer (some ⟨fb, 0, none⟩)), .is (.pointer (some ⟨fb, 0, none⟩)), .is (.pointer (some ⟨fb, 0, none⟩)), .is (.int .i64 l), .is (.pointer (some ⟨xb, 0, none⟩)), .is (.int .i64 l), .is (.bool true), .is (.bool true), .is (.pointer (some ⟨fb, 0, none⟩)), .is (.pointer (some ⟨fb, 0, none⟩)), .is (.pointer (some ⟨fb, 1, none⟩)), .is (.int .i64 f), .is (.pointer (some ⟨xb, 1, none⟩)), .is (.int .i64 f), .is (.bool true), .is (.bool true), .is (.bool true), .is (.pointer (some ⟨fb, 0, none⟩)), .is (.pointer (some ⟨fb, 0, none⟩)), .is (.pointer (some ⟨fb, 2, none⟩)), .is (.int .i64 c), .is (.pointer (some ⟨xb, 2, none⟩)), .is (.int .i64 c), .is (.bool true), .is (.bool true), .is (.bool true), .is (.iface 42 (.pointer (some ⟨fb, 0, none⟩))), .is (.pointer (some ⟨xb, 2, none⟩)), .is (.int .i64 c), .is (.iface 31 (.int .i64 c)), .is (.bool true), .is (.bool true), .is (.bool true)] 51 rfl (by kernel_rfl) [(0, 19), (1, 20), (2, 21), (3, 22), (4, 23), (5, 24), (6, 25), (7, 26), (8, 27), (9, 28), (10, 29), (11, 30), (12, 31), (13, 32), (14, 33), (15, 34), (16, 35), (17, 36), (18, 37), (19, 38), (20, 39), (21, 40), (22, 41), (23, 42), (24, 43), (25, 44), (26, 45), (27, 46), (28, 47), (29, 48), (30, 49), (31, 50), (32, 4)] (by kernel_rfl) ?_ ?_
  · intro q a1 W1 i hi hnq hd hG K hK
    have hlt : i < 33 := hi
    have hc : i = 0 ∨ i = 1 ∨ i = 2 ∨ i = 3 ∨ i = 4 ∨ i = 5 ∨ i = 6 ∨ i = 7 ∨ i = 8 ∨ i = 9 ∨ i = 10 ∨ i = 11 ∨ i = 12 ∨ i = 13 ∨ i = 14 ∨ i = 15 ∨ i = 16 ∨ i = 17 ∨ i = 18 ∨ i = 19 ∨ i = 20 ∨ i = 21 ∨ i = 22 ∨ i = 23 ∨ i = 24 ∨ i = 25 ∨ i = 26 ∨ i = 27 ∨ i = 28 ∨ i = 29 ∨ i = 30 ∨ i = 31 ∨ i = 32 := by omega
    rcases hc with rfl | rfl | rfl | rfl | rfl | rfl | rfl | rfl | rfl | rfl | rfl | rfl | rfl | rfl | rfl | rfl | rfl | rfl | rfl | rfl | rfl | rfl | rfl | rfl | rfl | rfl | rfl | rfl | rfl | rfl | rfl | rfl | rfl
    · have e5 := hG.old 5 (by kernel_rfl)
      have ct := HT0.out W1 hG.grown
      refine op_do rfl (wanted_none rfl) hK (fun K' hK' => ?_)
      unfold Oper.wp
      go_simp
      exact hK' _ _ (Fr.refl _ _) rfl
    · have e19 := hG.val (v := .pointer (some ⟨fb, 0, none⟩)) 0 19 (hd _ rfl ⟨0, .data⟩ (by simp) rfl) rfl rfl
      refine op_do rfl (wanted_none rfl) hK (fun K' hK' => ?_)
      unfold Oper.wp
      go_simp
      exact hK' _ _ (Fr.refl _ _) rfl
    · have e20 := hG.val (v := .pointer (some ⟨fb, 0, none⟩)) 1 20 (hd _ rfl ⟨1, .data⟩ (by simp) rfl) rfl rfl
      refine op_do rfl (wanted_none rfl) hK (fun K' hK' => ?_)
      unfold Oper.wp
      go_simp
      exact hK' _ _ (Fr.refl _ _) rfl
    · have e21 := hG.val (v := .pointer (some ⟨fb, 0, none⟩)) 2 21 (hd _ rfl ⟨2, .data⟩ (by simp) rfl) rfl rfl
      have cf := HF0.out W1 hG.grown
      refine op_do rfl (wanted_none rfl) hK (fun K' hK' => ?_)
      unfold Oper.wp
      go_simp
      exact hK' _ _ (Fr.refl _ _) rfl
    · have e3 := hG.old 3 (by kernel_rfl)
      refine op_do rfl (wanted_none rfl) hK (fun K' hK' => ?_)
      unfold Oper.wp
      go_simp
      exact hK' _ _ (Fr.refl _ _) rfl
    · have e23 := hG.val (v := .pointer (some ⟨xb, 0, none⟩)) 4 23 (hd _ rfl ⟨4, .data⟩ (by simp) rfl) rfl rfl
      have cf := HX0.out W1 hG.grown
      refine op_do rfl (wanted_none rfl) hK (fun K' hK' => ?_)
      unfold Oper.wp
      go_simp
      exact hK' _ _ (Fr.refl _ _) rfl
    · have e22 := hG.val (v := .int .i64 l) 3 22 (hd _ rfl ⟨3, .data⟩ (by simp) rfl) rfl rfl
      have e24 := hG.val (v := .int .i64 l) 5 24 (hd _ rfl ⟨5, .data⟩ (by simp) rfl) rfl rfl
      have ex : (l == l) = true := by simp
      refine op_do rfl (wanted_none rfl) hK (fun K' hK' => ?_)
      unfold Oper.wp
      go_simp
      exact hK' _ _ (Fr.refl _ _) rfl
    · have e25 := hG.val (v := .bool true) 6 25 (hd _ rfl ⟨6, .data⟩ (by simp) rfl) rfl rfl
      refine op_do rfl (wanted_none rfl) hK (fun K' hK' => ?_)
      unfold Oper.wp
      go_simp
      exact hK' _ _ (Fr.refl _ _) rfl
    · have e5 := hG.old 5 (by kernel_rfl)
      have eg := hG.val (v := .bool true) 7 26 (hd _ rfl ⟨7, .guard⟩ (by simp) rfl) rfl rfl
      have ct := HT0.out W1 hG.grown
      refine op_do rfl (by simp [Region.wanted, yielded, eg]) hK (fun K' hK' => ?_)
      unfold Oper.wp
      go_simp
      exact hK' _ _ (Fr.refl _ _) rfl
    · have e27 := hG.val (v := .pointer (some ⟨fb, 0, none⟩)) 8 27 (hd _ rfl ⟨8, .data⟩ (by simp) rfl) rfl rfl
      have eg := hG.val (v := .bool true) 7 26 (hd _ rfl ⟨7, .guard⟩ (by simp) rfl) rfl rfl
      refine op_do rfl (by simp [Region.wanted, yielded, eg]) hK (fun K' hK' => ?_)
      unfold Oper.wp
      go_simp
      exact hK' _ _ (Fr.refl _ _) rfl
    · have e28 := hG.val (v := .pointer (some ⟨fb, 0, none⟩)) 9 28 (hd _ rfl ⟨9, .data⟩ (by simp) rfl) rfl rfl
      have eg := hG.val (v := .bool true) 7 26 (hd _ rfl ⟨7, .guard⟩ (by simp) rfl) rfl rfl
      refine op_do rfl (by simp [Region.wanted, yielded, eg]) hK (fun K' hK' => ?_)
      unfold Oper.wp
      go_simp
      exact hK' _ _ (Fr.refl _ _) rfl
    · have e29 := hG.val (v := .pointer (some ⟨fb, 1, none⟩)) 10 29 (hd _ rfl ⟨10, .data⟩ (by simp) rfl) rfl rfl
      have eg := hG.val (v := .bool true) 7 26 (hd _ rfl ⟨7, .guard⟩ (by simp) rfl) rfl rfl
      have cf := HF1.out W1 hG.grown
      refine op_do rfl (by simp [Region.wanted, yielded, eg]) hK (fun K' hK' => ?_)
      unfold Oper.wp
      go_simp
      exact hK' _ _ (Fr.refl _ _) rfl
    · have e3 := hG.old 3 (by kernel_rfl)
      have eg := hG.val (v := .bool true) 7 26 (hd _ rfl ⟨7, .guard⟩ (by simp) rfl) rfl rfl
      refine op_do rfl (by simp [Region.wanted, yielded, eg]) hK (fun K' hK' => ?_)
      unfold Oper.wp
      go_simp
      exact hK' _ _ (Fr.refl _ _) rfl
    · have e31 := hG.val (v := .pointer (some ⟨xb, 1, none⟩)) 12 31 (hd _ rfl ⟨12, .data⟩ (by simp) rfl) rfl rfl
      have eg := hG.val (v := .bool true) 7 26 (hd _ rfl ⟨7, .guard⟩ (by simp) rfl) rfl rfl
      have cf := HX1.out W1 hG.grown
      refine op_do rfl (by simp [Region.wanted, yielded, eg]) hK (fun K' hK' => ?_)
      unfold Oper.wp
      go_simp
      exact hK' _ _ (Fr.refl _ _) rfl
    · have e30 := hG.val (v := .int .i64 f) 11 30 (hd _ rfl ⟨11, .data⟩ (by simp) rfl) rfl rfl
      have e32 := hG.val (v := .int .i64 f) 13 32 (hd _ rfl ⟨13, .data⟩ (by simp) rfl) rfl rfl
      have eg := hG.val (v := .bool true) 7 26 (hd _ rfl ⟨7, .guard⟩ (by simp) rfl) rfl rfl
      have ex : (f == f) = true := by simp
      refine op_do rfl (by simp [Region.wanted, yielded, eg]) hK (fun K' hK' => ?_)
      unfold Oper.wp
      go_simp
      exact hK' _ _ (Fr.refl _ _) rfl
    · have e26 := hG.val (v := .bool true) 7 26 (hd _ rfl ⟨7, .data⟩ (by simp) rfl) rfl rfl
      have e33 := hG.val (v := .bool true) 14 33 (hd _ rfl ⟨14, .data⟩ (by simp) rfl) rfl rfl
      refine op_do rfl (wanted_none rfl) hK (fun K' hK' => ?_)
      unfold Oper.wp
      go_simp
      exact hK' _ _ (Fr.refl _ _) rfl
    · have e34 := hG.val (v := .bool true) 15 34 (hd _ rfl ⟨15, .data⟩ (by simp) rfl) rfl rfl
      refine op_do rfl (wanted_none rfl) hK (fun K' hK' => ?_)
      unfold Oper.wp
      go_simp
      exact hK' _ _ (Fr.refl _ _) rfl
    · have e5 := hG.old 5 (by kernel_rfl)
      have eg := hG.val (v := .bool true) 16 35 (hd _ rfl ⟨16, .guard⟩ (by simp) rfl) rfl rfl
      have ct := HT0.out W1 hG.grown
      refine op_do rfl (by simp [Region.wanted, yielded, eg]) hK (fun K' hK' => ?_)
      unfold Oper.wp
      go_simp
      exact hK' _ _ (Fr.refl _ _) rfl
    · have e36 := hG.val (v := .pointer (some ⟨fb, 0, none⟩)) 17 36 (hd _ rfl ⟨17, .data⟩ (by simp) rfl) rfl rfl
      have eg := hG.val (v := .bool true) 16 35 (hd _ rfl ⟨16, .guard⟩ (by simp) rfl) rfl rfl
      refine op_do rfl (by simp [Region.wanted, yielded, eg]) hK (fun K' hK' => ?_)
      unfold Oper.wp
      go_simp
      exact hK' _ _ (Fr.refl _ _) rfl
    · have e37 := hG.val (v := .pointer (some ⟨fb, 0, none⟩)) 18 37 (hd _ rfl ⟨18, .data⟩ (by simp) rfl) rfl rfl
      have eg := hG.val (v := .bool true) 16 35 (hd _ rfl ⟨16, .guard⟩ (by simp) rfl) rfl rfl
      refine op_do rfl (by simp [Region.wanted, yielded, eg]) hK (fun K' hK' => ?_)
      unfold Oper.wp
      go_simp
      exact hK' _ _ (Fr.refl _ _) rfl
    · have e38 := hG.val (v := .pointer (some ⟨fb, 2, none⟩)) 19 38 (hd _ rfl ⟨19, .data⟩ (by simp) rfl) rfl rfl
      have eg := hG.val (v := .bool true) 16 35 (hd _ rfl ⟨16, .guard⟩ (by simp) rfl) rfl rfl
      have cf := HF2.out W1 hG.grown
      refine op_do rfl (by simp [Region.wanted, yielded, eg]) hK (fun K' hK' => ?_)
      unfold Oper.wp
      go_simp
      exact hK' _ _ (Fr.refl _ _) rfl
    · have e3 := hG.old 3 (by kernel_rfl)
      have eg := hG.val (v := .bool true) 16 35 (hd _ rfl ⟨16, .guard⟩ (by simp) rfl) rfl rfl
      refine op_do rfl (by simp [Region.wanted, yielded, eg]) hK (fun K' hK' => ?_)
      unfold Oper.wp
      go_simp
      exact hK' _ _ (Fr.refl _ _) rfl
    · have e40 := hG.val (v := .pointer (some ⟨xb, 2, none⟩)) 21 40 (hd _ rfl ⟨21, .data⟩ (by simp) rfl) rfl rfl
      have eg := hG.val (v := .bool true) 16 35 (hd _ rfl ⟨16, .guard⟩ (by simp) rfl) rfl rfl
      have cf := HX2.out W1 hG.grown
      refine op_do rfl (by simp [Region.wanted, yielded, eg]) hK (fun K' hK' => ?_)
      unfold Oper.wp
      go_simp
      exact hK' _ _ (Fr.refl _ _) rfl
    · have e39 := hG.val (v := .int .i64 c) 20 39 (hd _ rfl ⟨20, .data⟩ (by simp) rfl) rfl rfl
      have e41 := hG.val (v := .int .i64 c) 22 41 (hd _ rfl ⟨22, .data⟩ (by simp) rfl) rfl rfl
      have eg := hG.val (v := .bool true) 16 35 (hd _ rfl ⟨16, .guard⟩ (by simp) rfl) rfl rfl
      have ex : (c == c) = true := by simp
      refine op_do rfl (by simp [Region.wanted, yielded, eg]) hK (fun K' hK' => ?_)
      unfold Oper.wp
      go_simp
      exact hK' _ _ (Fr.refl _ _) rfl
    · have e35 := hG.val (v := .bool true) 16 35 (hd _ rfl ⟨16, .data⟩ (by simp) rfl) rfl rfl
      have e42 := hG.val (v := .bool true) 23 42 (hd _ rfl ⟨23, .data⟩ (by simp) rfl) rfl rfl
      refine op_do rfl (wanted_none rfl) hK (fun K' hK' => ?_)
      unfold Oper.wp
      go_simp
      exact hK' _ _ (Fr.refl _ _) rfl
    · have e43 := hG.val (v := .bool true) 24 43 (hd _ rfl ⟨24, .data⟩ (by simp) rfl) rfl rfl
      refine op_do rfl (wanted_none rfl) hK (fun K' hK' => ?_)
      unfold Oper.wp
      go_simp
      exact hK' _ _ (Fr.refl _ _) rfl
    · have e0 := hG.old 0 (by kernel_rfl)
      have eg := hG.val (v := .bool true) 25 44 (hd _ rfl ⟨25, .guard⟩ (by simp) rfl) rfl rfl
      refine op_do rfl (by simp [Region.wanted, yielded, eg]) hK (fun K' hK' => ?_)
      unfold Oper.wp
      go_simp
      exact hK' _ _ (Fr.refl _ _) rfl
    · have e3 := hG.old 3 (by kernel_rfl)
      have eg := hG.val (v := .bool true) 25 44 (hd _ rfl ⟨25, .guard⟩ (by simp) rfl) rfl rfl
      refine op_do rfl (by simp [Region.wanted, yielded, eg]) hK (fun K' hK' => ?_)
      unfold Oper.wp
      go_simp
      exact hK' _ _ (Fr.refl _ _) rfl
    · have e46 := hG.val (v := .pointer (some ⟨xb, 2, none⟩)) 27 46 (hd _ rfl ⟨27, .data⟩ (by simp) rfl) rfl rfl
      have eg := hG.val (v := .bool true) 25 44 (hd _ rfl ⟨25, .guard⟩ (by simp) rfl) rfl rfl
      have cf := HX2.out W1 hG.grown
      refine op_do rfl (by simp [Region.wanted, yielded, eg]) hK (fun K' hK' => ?_)
      unfold Oper.wp
      go_simp
      exact hK' _ _ (Fr.refl _ _) rfl
    · have e47 := hG.val (v := .int .i64 c) 28 47 (hd _ rfl ⟨28, .data⟩ (by simp) rfl) rfl rfl
      have eg := hG.val (v := .bool true) 25 44 (hd _ rfl ⟨25, .guard⟩ (by simp) rfl) rfl rfl
      refine op_do rfl (by simp [Region.wanted, yielded, eg]) hK (fun K' hK' => ?_)
      unfold Oper.wp
      go_simp
      exact hK' _ _ (Fr.refl _ _) rfl
    · have e45 := hG.val (v := .iface 42 (.pointer (some ⟨fb, 0, none⟩))) 26 45 (hd _ rfl ⟨26, .data⟩ (by simp) rfl) rfl rfl
      have e48 := hG.val (v := .iface 31 (.int .i64 c)) 29 48 (hd _ rfl ⟨29, .data⟩ (by simp) rfl) rfl rfl
      have eg := hG.val (v := .bool true) 25 44 (hd _ rfl ⟨25, .guard⟩ (by simp) rfl) rfl rfl
      refine op_do rfl (by simp [Region.wanted, yielded, eg]) hK (fun K' hK' => ?_)
      unfold Oper.wp
      go_simp
      refine (is_code fb l f c W1 (HF2.out W1 hG.grown)).mono ?_
      rintro e W2 ⟨rfl, rfl⟩
      exact hK' _ _ (Fr.refl _ _) rfl
    · have e44 := hG.val (v := .bool true) 25 44 (hd _ rfl ⟨25, .data⟩ (by simp) rfl) rfl rfl
      have e49 := hG.val (v := .bool true) 30 49 (hd _ rfl ⟨30, .data⟩ (by simp) rfl) rfl rfl
      refine op_do rfl (wanted_none rfl) hK (fun K' hK' => ?_)
      unfold Oper.wp
      go_simp
      exact hK' _ _ (Fr.refl _ _) rfl
    · have e50 := hG.val (v := .bool true) 31 50 (hd _ rfl ⟨31, .data⟩ (by simp) rfl) rfl rfl
      refine op_do rfl (wanted_none rfl) hK (fun K' hK' => ?_)
      unfold Oper.wp
      go_simp
      exact hK' _ _ (Fr.refl _ _) rfl
  · intro vs W1 f1 hv
    have r0 : vs 0 = .pointer (some ⟨fb, 0, none⟩) := hv 0 19 (by decide) rfl
    have r1 : vs 1 = .pointer (some ⟨fb, 0, none⟩) := hv 1 20 (by decide) rfl
    have r2 : vs 2 = .pointer (some ⟨fb, 0, none⟩) := hv 2 21 (by decide) rfl
    have r3 : vs 3 = .int .i64 l := hv 3 22 (by decide) rfl
    have r4 : vs 4 = .pointer (some ⟨xb, 0, none⟩) := hv 4 23 (by decide) rfl
    have r5 : vs 5 = .int .i64 l := hv 5 24 (by decide) rfl
    have r6 : vs 6 = .bool true := hv 6 25 (by decide) rfl
    have r7 : vs 7 = .bool true := hv 7 26 (by decide) rfl
    have r8 : vs 8 = .pointer (some ⟨fb, 0, none⟩) := hv 8 27 (by decide) rfl
    have r9 : vs 9 = .pointer (some ⟨fb, 0, none⟩) := hv 9 28 (by decide) rfl
    have r10 : vs 10 = .pointer (some ⟨fb, 1, none⟩) := hv 10 29 (by decide) rfl
    have r11 : vs 11 = .int .i64 f := hv 11 30 (by decide) rfl
    have r12 : vs 12 = .pointer (some ⟨xb, 1, none⟩) := hv 12 31 (by decide) rfl
    have r13 : vs 13 = .int .i64 f := hv 13 32 (by decide) rfl
    have r14 : vs 14 = .bool true := hv 14 33 (by decide) rfl
    have r15 : vs 15 = .bool true := hv 15 34 (by decide) rfl
    have r16 : vs 16 = .bool true := hv 16 35 (by decide) rfl
    have r17 : vs 17 = .pointer (some ⟨fb, 0, none⟩) := hv 17 36 (by decide) rfl
    have r18 : vs 18 = .pointer (some ⟨fb, 0, none⟩) := hv 18 37 (by decide) rfl
    have r19 : vs 19 = .pointer (some ⟨fb, 2, none⟩) := hv 19 38 (by decide) rfl
    have r20 : vs 20 = .int .i64 c := hv 20 39 (by decide) rfl
    have r21 : vs 21 = .pointer (some ⟨xb, 2, none⟩) := hv 21 40 (by decide) rfl
    have r22 : vs 22 = .int .i64 c := hv 22 41 (by decide) rfl
    have r23 : vs 23 = .bool true := hv 23 42 (by decide) rfl
    have r24 : vs 24 = .bool true := hv 24 43 (by decide) rfl
    have r25 : vs 25 = .bool true := hv 25 44 (by decide) rfl
    have r26 : vs 26 = .iface 42 (.pointer (some ⟨fb, 0, none⟩)) := hv 26 45 (by decide) rfl
    have r27 : vs 27 = .pointer (some ⟨xb, 2, none⟩) := hv 27 46 (by decide) rfl
    have r28 : vs 28 = .int .i64 c := hv 28 47 (by decide) rfl
    have r29 : vs 29 = .iface 31 (.int .i64 c) := hv 29 48 (by decide) rfl
    have r30 : vs 30 = .bool true := hv 30 49 (by decide) rfl
    have r31 : vs 31 = .bool true := hv 31 50 (by decide) rfl
    have r32 : vs 32 = .bool true := hv 32 4 (by decide) rfl
    simp only [lay, List.foldl_cons, List.foldl_nil, r0, r1, r2, r3, r4, r5, r6, r7, r8, r9, r10, r11, r12, r13, r14, r15, r16, r17, r18, r19, r20, r21, r22, r23, r24, r25, r26, r27, r28, r29, r30, r31, r32]
    simp only [List.setIfInBounds_toArray, List.set_cons_zero, List.set_cons_succ]
    clear hv r0 r1 r2 r3 r4 r5 r6 r7 r8 r9 r10 r11 r12 r13 r14 r15 r16 r17 r18 r19 r20 r21 r22 r23 r24 r25 r26 r27 r28 r29 r30 r31 r32
    have H9 := Lib.hid (HW3.out.trans f1 (by simp))
    clear f1
    go_wp2
    go_ret
    exact ⟨rfl, H9.out⟩

end Sc
end Go.Proofs.YtbpgpjibljgiiaaGreatDoor
