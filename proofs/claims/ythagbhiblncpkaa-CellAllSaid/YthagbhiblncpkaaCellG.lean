/-
  Small functions of the statements' package: same; cell.Line's closure.
-/
import Derived.Test.YthagbhiblncpkaaCellF
import Derived.Deep.QuietTactic
import Derived.BigQuiet
namespace Go.Proofs.Ythagbhiblncpkaa
open Go.RowKit Go.Shelf
set_option linter.unusedVariables false

/-- Cells one behind another. -/
def flat (L : List (Int × Int)) : List Value := L.flatMap fun c => [.int .i32 c.1, .int .i32 c.2]
theorem flat_len (L : List (Int × Int)) : (flat L).length = L.length * 2 := by
  induction L with
  | nil => rfl
  | cons a L ih => simp only [flat, List.flatMap_cons, List.length_append, List.length_cons, List.length_nil] at *; omega
theorem flat_append (A B : List (Int × Int)) : flat (A ++ B) = flat A ++ flat B := by simp [flat]
theorem flat_get (L : List (Int × Int)) : ∀ {k : Nat} (hk : k < L.length), (flat L)[k * 2]? = some (.int .i32 L[k].1) ∧ (flat L)[k * 2 + 1]? = some (.int .i32 L[k].2) := by
  induction L with
  | nil => intro k hk; simp at hk
  | cons a L ih =>
    intro k hk
    cases k with
    | zero => exact ⟨rfl, rfl⟩
    | succ k =>
      have h := ih (k := k) (by simpa using hk)
      have e1 : (k + 1) * 2 = k * 2 + 1 + 1 := by omega
      have e2 : (k + 1) * 2 + 1 = k * 2 + 1 + 1 + 1 := by omega
      rw [e2, e1]
      simpa [flat] using h
theorem flat_one (L : List (Int × Int)) : ∀ u ∈ flat L, u.oneCell' = true := by
  intro u hu
  simp only [flat, List.mem_flatMap] at hu
  obtain ⟨c, -, hc⟩ := hu
  simp at hc
  rcases hc with rfl | rfl <;> rfl

/-- A slice that reads as these cells, nil or not. -/
def RdC (w : World) (v : Value) (L : List (Int × Int)) : Prop :=
  ∃ p cap, v = .slice p L.length cap ∧ L.length ≤ 4611686018427387904 ∧ (L.length = 0 ∨ ∃ g o, p = some ⟨g, o, none⟩ ∧ ∀ k (hk : k < L.length), w.cell? ⟨g, o + k * 2, none⟩ = some (.int .i32 L[k].1) ∧ w.cell? ⟨g, o + k * 2 + 1, none⟩ = some (.int .i32 L[k].2))
theorem RdC.of_own {w : World} {n : Nat} {v : Value} {L : List (Int × Int)} (h : w.ownsRow 0 33 2 v n (flat L)) (hn : n ≤ 4611686018427387904) : RdC w v L := by
  have hl : L.length = n := by have := h.1; rw [flat_len] at this; omega
  rcases h.2 with ⟨rfl, rfl⟩ | ⟨g, cap, cur, rfl, _, hg, hnc, _, _, _⟩
  · exact ⟨none, 0, by rw [hl], by omega, .inl hl⟩
  · refine ⟨_, cap, by rw [hl], by omega, .inr ⟨g, 0, rfl, fun k hk => ?_⟩⟩
    obtain ⟨h1, h2⟩ := flat_get L hk
    have a1 := h.cells (g := g) rfl _ _ h1
    have a2 := h.cells (g := g) rfl _ _ h2
    rw [Addr.add_lit] at a1 a2
    exact ⟨by simpa using a1, by simpa [Nat.add_assoc] using a2⟩
theorem RdC.grow {w w' : World} {v : Value} {L : List (Int × Int)} (h : RdC w v L) (hf : Fr [] w w') : RdC w' v L := by
  obtain ⟨p, cap, rfl, hm, h0⟩ := h
  refine ⟨p, cap, rfl, hm, ?_⟩
  rcases h0 with h0 | ⟨g, o, rfl, h0⟩
  · exact .inl h0
  · exact .inr ⟨g, o, rfl, fun k hk => ⟨(hf.cell (World.block_lt_of_cell? w _ (h0 k hk).1) (by simp)).trans (h0 k hk).1, (hf.cell (World.block_lt_of_cell? w _ (h0 k hk).2) (by simp)).trans (h0 k hk).2⟩⟩

theorem neq33 (a b c d : Int) (w : World) : (binOp .neq 33 (.agg #[.int .i32 a, .int .i32 b]) (.agg #[.int .i32 c, .int .i32 d])).run Try.prog w = .ok (.bool (!(a == c && b == d))) w := by
  by_cases h1 : a = c <;> by_cases h2 : b = d <;> simp [go_sem, h1, h2]

theorem Line_any (w : World) (px py qx qy s : Int) : Calls Try.prog 7 #[pt px py, pt qx qy, .int .i64 s] w fun e w' =>
    e = .returned (.func (.func 30) #[] #[.pointer (some ⟨w.heap.size + 2, 0, none⟩), .pointer (some ⟨w.heap.size, 0, none⟩), .pointer (some ⟨w.heap.size + 1, 0, none⟩)]) ∧
      Held (w.heap.size + 2) w.heap.size (w.heap.size + 1) px py qx qy s w' ∧ Fr [] w w' := by
  unfold pt
  go_enter Try.func7, Try.ntmps7
  go_wp2
  go_ret
  exact ⟨rfl, ⟨Blk.new_at (by simp) _ _, ((Blk.new _ _ _).alloc _).alloc _, (Blk.new_at (by simp) _ _).alloc _, by omega⟩, ((Fr.refl _ _).alloc _).alloc _ |>.alloc _⟩

theorem take_eq_succ {α : Type} {A B : List α} {k : Nat} (ha : k < A.length) (hb : k < B.length) : A.take (k + 1) = B.take (k + 1) ↔ A.take k = B.take k ∧ A[k] = B[k] := by
  rw [List.take_succ_eq_append_getElem ha, List.take_succ_eq_append_getElem hb]
  constructor
  · intro h
    have := List.append_inj h (by simp; omega)
    simpa using this
  · rintro ⟨h1, h2⟩; rw [h1, h2]

set_option maxHeartbeats 1000000 in
theorem same_any (w : World) (va vb : Value) (A B : List (Int × Int)) (ha : RdC w va A) (hb : RdC w vb B) :
    Calls Try.prog 9 #[va, vb] w fun e w' => e = .returned (.bool (decide (A = B))) ∧ Fr [] w w' := by
  have HA := Lib.hid ha
  have HB := Lib.hid hb
  obtain ⟨p, cap, rfl, ma, h0⟩ := ha
  obtain ⟨p', cap', rfl, mb, h0'⟩ := hb
  by_cases hl : A.length = B.length
  · have HL := Lib.hid hl
    obtain ⟨n, hn⟩ : ∃ n, n = A.length := ⟨_, rfl⟩
    rw [← hl]
    rw [← hn] at ma ⊢
    have HN := Lib.hid hn
    have H0 := Lib.hid h0
    have H0' := Lib.hid h0'
    clear hl hn h0 h0' mb
    have hnn : (((n : Int) == n) = true) ∧ (((n : Int) != n) = false) := ⟨by simp, by simp⟩
    have hq := neq33
    go_enter Try.func9, Try.ntmps9
    go_wp2
    go_loopw [5] (fun i wr => ∃ k : Nat, i = .int .i64 k ∧ k ≤ n ∧ A.take k = B.take k ∧ Fr [] w wr) (fun i _ => n - (intOf i).toNat)
    case atStart => exact ⟨0, rfl, Nat.zero_le _, rfl, Fr.refl _ _⟩
    case round =>
      obtain ⟨k, rfl, hk, ht, hf⟩ := hrel
      obtain ⟨wi, rfl⟩ : ∃ wi : World, wi = wr := ⟨_, rfl⟩
      have HT := Lib.hid ht
      have HF := Lib.hid hf
      clear ht hf
      by_cases hlt : k < n
      · have hka : k < A.length := by rw [← HN.out]; exact hlt
        have hkb : k < B.length := by rw [← HL.out, ← HN.out]; exact hlt
        obtain ⟨g, o, rfl, c0⟩ := H0.out.resolve_left (by omega)
        obtain ⟨g', o', rfl, c0'⟩ := H0'.out.resolve_left (by omega)
        have a1 := (HF.out.cell (World.block_lt_of_cell? w _ (c0 k hka).1) (by simp)).trans (c0 k hka).1
        have a2 := (HF.out.cell (World.block_lt_of_cell? w _ (c0 k hka).2) (by simp)).trans (c0 k hka).2
        have b1 := (HF.out.cell (World.block_lt_of_cell? w _ (c0' k hkb).1) (by simp)).trans (c0' k hkb).1
        have b2 := (HF.out.cell (World.block_lt_of_cell? w _ (c0' k hkb).2) (by simp)).trans (c0' k hkb).2
        clear c0 c0'
        have hs := take_eq_succ hka hkb
        generalize A[k] = x at a1 a2 hs
        generalize B[k] = y at b1 b2 hs
        obtain ⟨x1, x2⟩ := x
        obtain ⟨y1, y2⟩ := y
        have HS := Lib.hid hs
        have g1 : (0 : Int) ≤ (k : Int) := by omega
        have g2 : (k : Int) < (n : Int) := by omega
        clear hs hka hkb
        dsimp only at a1 a2 b1 b2
        by_cases he : x1 = y1 ∧ x2 = y2
        · have HE := Lib.hid he
          have heb : (!(x1 == y1 && x2 == y2)) = false := by simp [he.1, he.2]
          clear he
          go_wp2
          go_quiet (fail)
          go_wp2
          go_roundw
          case rel => exact ⟨k + 1, by go_num, by omega, HS.out.2 ⟨HT.out, by rw [HE.out.1, HE.out.2]⟩, HF.out.drewN _⟩
          case measure => simp [intOf]; omega
        · have HE := Lib.hid he
          have heb : (!(x1 == y1 && x2 == y2)) = true := by
            by_cases h1 : x1 = y1
            · have : x2 ≠ y2 := fun h => he ⟨h1, h⟩
              simp [h1, this]
            · simp [h1]
          clear he
          go_wp2
          go_quiet (fail)
          go_wp2
          go_ret
          refine ⟨ret_bool ?_, HF.out.drewN _⟩
          rw [eq_comm, decide_eq_false_iff_not]
          rintro rfl
          have := (HS.out.1 rfl).2
          cases this
          exact HE.out ⟨rfl, rfl⟩
      · obtain rfl : k = n := by omega
        go_wp2
        go_ret
        refine ⟨ret_bool ?_, HF.out⟩
        rw [eq_comm, decide_eq_true_iff]
        have := HT.out
        rwa [HN.out, List.take_of_length_le (Nat.le_refl _), List.take_of_length_le (by rw [HL.out]; exact Nat.le_refl _)] at this
  · have hd : decide (A = B) = false := decide_eq_false (fun h => hl (by rw [h]))
    rw [hd]
    have e1 : ((A.length : Int) == (B.length : Int)) = false := by rw [beq_eq_false_iff_ne]; omega
    have e2 : ((A.length : Int) != (B.length : Int)) = true := by rw [bne_iff_ne]; omega
    clear hd h0 h0'
    generalize A.length = a at *
    generalize B.length = b at *
    go_enter Try.func9, Try.ntmps9
    go_wp2
    go_ret
    exact ⟨rfl, Fr.refl _ _⟩

end Go.Proofs.Ythagbhiblncpkaa
