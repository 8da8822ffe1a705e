/-
  Track's arguments, as they read.
-/
import Derived.Test.YtgoolkgjcmdilaaDoorCardK
import Derived.Test.YtgoolkgjcmdilaaDoorTraE
namespace Go.Proofs.YtgoolkgjcmdilaaDoor.cardT
open Go.RowKit Go.ChangeShapes Go.WideShapes Go.ChangeAt cardK
set_option linter.unusedVariables false
set_option linter.unusedSimpArgs false

theorem cells98 : Tryd.prog.cellsOf 98 = 2 := by kernel_rfl
theorem read_float {W : World} {H : Type} {enc : TypeId × Value → H} {t : TypeId} {k : FloatKind} {fuel : Nat} {cs : List Value} {x : DataW H × List MemPlace} (ht : Tryd.prog.underlying t = some (.float k)) (h : DataW.trod enc Tryd.prog W 0 (fun _ => true) true fuel t cs = some x) : ∃ b : Nat, cs = [.float k b] := by
  cases fuel with
  | zero => simp [DataW.trod] at h
  | succ n =>
    unfold DataW.trod at h
    rw [ht] at h
    split at h <;> simp_all
theorem l2 {α : Type} {l : List α} (h : l.length = 2) : ∃ a b, l = [a, b] := by
  match l, h with
  | [a, b], _ => exact ⟨a, b, rfl⟩
theorem bounds_i32 {n : Int} (h : (Lit.int .i32 n).wf = true) : I32 n := by
  simp [Lit.wf, IntKind.min, IntKind.max, IntKind.signed, IntKind.bits] at h
  unfold I32
  omega
set_option maxRecDepth 100000 in
theorem read_pt {W : World} {H : Type} {enc : TypeId × Value → H} {fuel : Nat} {cs : List Value} {x : DataW H × List MemPlace} (h : DataW.trod enc Tryd.prog W 0 (fun _ => true) true fuel 98 cs = some x) : ∃ a b : Int, cs = [.int .i32 a, .int .i32 b] ∧ I32 a ∧ I32 b := by
  obtain ⟨xs, m, _, _, hl, hlen, hf⟩ := DataW.trod_struct Tryd.underlying98 h
  rw [cells98] at hl
  obtain ⟨c0, c1, rfl⟩ := l2 hl
  obtain ⟨y0, y1, rfl⟩ := l2 hlen
  obtain ⟨a, h0, w0⟩ := read_int Tryd.underlying21 (hf 0 _ rfl)
  obtain ⟨b, h1, w1⟩ := read_int Tryd.underlying21 (hf 1 _ rfl)
  have q0 : [c0] = [Value.int .i32 a] := h0
  have q1 : [c1] = [Value.int .i32 b] := h1
  cases q0; cases q1
  exact ⟨a, b, rfl, bounds_i32 w0, bounds_i32 w1⟩
end Go.Proofs.YtgoolkgjcmdilaaDoor.cardT
