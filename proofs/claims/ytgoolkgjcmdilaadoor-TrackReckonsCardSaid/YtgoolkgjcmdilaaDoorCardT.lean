/-
  Track's arguments, as they read.
-/
import Derived.Test.YtgoolkgjcmdilaaDoorCardK
import Derived.Test.YtgoolkgjcmdilaaDoorTraE
namespace Go.Proofs.YtgoolkgjcmdilaaDoor.cardT
open Go.RowKit Go.ChangeShapes Go.WideShapes Go.ChangeAt cardK
set_option linter.unusedVariables false
set_option linter.unusedSimpArgs false

theorem cells98 : Tryd.prog.cellsOf 98 = 2 := by kernel_rfl
theorem read_float {W : World} {H : Type} {enc : TypeId × Value → H} {t : TypeId} {k : FloatKind} {fuel : Nat} {cs : List Value} {x : DataW H × List MemPlace} (ht : Tryd.prog.underlying t = some (.float k)) (h : DataW.trod enc Tryd.prog W 0 (fun _ => true) true fuel t cs = some x) : ∃ b : Nat, cs = [.float k b] := by
  cases fuel with
  | zero => simp [DataW.trod] at h
  | succ n =>
    unfold DataW.trod at h
    rw [ht] at h
    split at h <;> simp_all
theorem l2 {α : Type} {l : List α} (h : l.length = 2) : ∃ a b, l = [a, b] := by
  match l, h with
  | [a, b], _ => exact ⟨a, b, rfl⟩
theorem bounds_i32 {n : Int} (h : (Lit.int .i32 n).wf = true) : I32 n := by
  simp [Lit.wf, IntKind.min, IntKind.max, IntKind.signed, IntKind.bits] at h
  unfold I32
  omega
set_option maxRecDepth 100000 in
theorem read_pt {W : World} {H : Type} {enc : TypeId × Value → H} {fuel : Nat} {cs : List Value} {x : DataW H × List MemPlace} (h : DataW.trod enc Tryd.prog W 0 (fun _ => true) true fuel 98 cs = some x) : ∃ a b : Int, cs = [.int .i32 a, .int .i32 b] ∧ I32 a ∧ I32 b := by
  obtain ⟨xs, m, _, _, hl, hlen, hf⟩ := DataW.trod_struct Tryd.underlying98 h
  rw [cells98] at hl
  obtain ⟨c0, c1, rfl⟩ := l2 hl
  obtain ⟨y0, y1, rfl⟩ := l2 hlen
  obtain ⟨a, h0, w0⟩ := read_int Tryd.underlying21 (hf 0 _ rfl)
  obtain ⟨b, h1, w1⟩ := read_int Tryd.underlying21 (hf 1 _ rfl)
  have q0 : [c0] = [Value.int .i32 a] := h0
  have q1 : [c1] = [Value.int .i32 b] := h1
  cases q0; cases q1
  exact ⟨a, b, rfl, bounds_i32 w0, bounds_i32 w1⟩
theorem cells101 : Tryd.prog.cellsOf 101 = 8 := by kernel_rfl
theorem l6 {α : Type} {l : List α} (h : l.length = 6) : ∃ a b c d e f, l = [a, b, c, d, e, f] := by
  match l, h with
  | [a, b, c, d, e, f], _ => exact ⟨a, b, c, d, e, f, rfl⟩
theorem l8 {α : Type} {l : List α} (h : l.length = 8) : ∃ a b c d e f g i, l = [a, b, c, d, e, f, g, i] := by
  match l, h with
  | [a, b, c, d, e, f, g, i], _ => exact ⟨a, b, c, d, e, f, g, i, rfl⟩
/-- The points of a way. -/
def PtQ (cs : List Value) (p : Int × Int) : Prop := cs = [.int .i32 p.1, .int .i32 p.2] ∧ I32 p.1 ∧ I32 p.2
theorem read_way {W : World} {H : Type} {enc : TypeId × Value → H} {fuel : Nat} {cs : List Value} {x : DataW H × List MemPlace} (h : DataW.trod enc Tryd.prog W 0 (fun _ => true) true fuel 99 cs = some x) :
    ∃ v l, cs = [v] ∧ RdS W v 2 PtQ l ∧ dlen x.1 = l.length := by
  have := read_list Tryd.underlying99 (by rw [cells98]; decide) PtQ (fun n cs x hx => by
    obtain ⟨a, b, h1, h2, h3⟩ := read_pt hx
    exact ⟨(a, b), h1, h2, h3⟩) h
  rwa [cells98] at this
/-- The parts of a struct that came in weigh no more than it may. -/
theorem sized_agg {P : Program} {H : Type} {ts : List TypeId} {ds : List (DataW H)} (hsz : (DataW.weightsEach P ts ds).all (· ≤ reachBytes) = true) {j : Nat} {t : TypeId} {fs : Array Field} {parts : List (DataW H)} (ht : ts[j]? = some t) (hd : ds[j]? = some (.agg parts)) (hu : P.underlying t = some (.struct fs)) :
    (DataW.weightsEach P (fs.toList.map (·.type)) parts).all (· ≤ reachBytes) = true := by
  rw [List.all_eq_true] at hsz ⊢
  intro n hn
  refine hsz n (DataW.weights_mem_each ht hd n ?_)
  unfold DataW.weights
  rw [hu]
  exact hn
set_option maxRecDepth 100000 in
theorem read_ask {W : World} {H : Type} {enc : TypeId × Value → H} {fuel : Nat} {cs : List Value} {x : DataW H × List MemPlace} (h : DataW.trod enc Tryd.prog W 0 (fun _ => true) true fuel 101 cs = some x) :
    ∃ (o px py qx qy t0 t : Int) (v : Value) (l : List (Int × Int)), cs = [.int .u64 o, .int .i32 px, .int .i32 py, .int .i32 qx, .int .i32 qy, .int .u32 t0, .int .u32 t, v] ∧ I32 px ∧ I32 py ∧ I32 qx ∧ I32 qy ∧ 0 ≤ o ∧ o ≤ 18446744073709551615 ∧ 0 ≤ t0 ∧ t0 ≤ 4294967295 ∧ 0 ≤ t ∧ t ≤ 4294967295 ∧ RdS W v 2 PtQ l ∧ ∃ parts d5, x.1 = .agg parts ∧ parts[5]? = some d5 ∧ dlen d5 = l.length := by
  obtain ⟨xs, m, _, hx, hl, hlen, hf⟩ := DataW.trod_struct Tryd.underlying101 h
  rw [cells101] at hl
  obtain ⟨c0, c1, c2, c3, c4, c5, c6, c7, rfl⟩ := l8 hl
  obtain ⟨y0, y1, y2, y3, y4, y5, rfl⟩ := l6 hlen
  obtain ⟨o, h0, w0⟩ := read_int Tryd.underlying96 (hf 0 _ rfl)
  obtain ⟨px, py, h1, b1, b2⟩ := read_pt (hf 1 _ rfl)
  obtain ⟨qx, qy, h2, b3, b4⟩ := read_pt (hf 2 _ rfl)
  obtain ⟨t0, h3, w3⟩ := read_int Tryd.underlying33 (hf 3 _ rfl)
  obtain ⟨t, h4, w4⟩ := read_int Tryd.underlying33 (hf 4 _ rfl)
  obtain ⟨v, l, h5, r5, n5⟩ := read_way (hf 5 _ rfl)
  have q0 : [c0] = [Value.int .u64 o] := h0
  have q1 : [c1, c2] = [Value.int .i32 px, .int .i32 py] := h1
  have q2 : [c3, c4] = [Value.int .i32 qx, .int .i32 qy] := h2
  have q3 : [c5] = [Value.int .u32 t0] := h3
  have q4 : [c6] = [Value.int .u32 t] := h4
  have q5 : [c7] = [v] := h5
  cases q0; cases q1; cases q2; cases q3; cases q4; cases q5
  have k0 := bounds_u64 w0
  have k3 := bounds_u32 w3
  have k4 := bounds_u32 w4
  exact ⟨o, px, py, qx, qy, t0, t, c7, l, rfl, b1, b2, b3, b4, k0.1, k0.2, k3.1, k3.2, k4.1, k4.2, r5, _, _, by rw [hx], rfl, n5⟩
end Go.Proofs.YtgoolkgjcmdilaaDoor.cardT
