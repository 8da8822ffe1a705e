/-
  Sets of small numbers: what a set is in memory; may, live, Has.
-/
import Derived.Test.YtgoolkgjcmdilaaDoorTabP
import Derived.Test.YtgoolkgjcmdilaaDoorProg
import Derived.WalkSmall
namespace Go.Proofs.YtgoolkgjcmdilaaDoor
open Go.RowKit
set_option linter.unusedVariables false
set_option linter.unusedSimpArgs false
attribute [local go_sem] Oper.semAt_some

/-- Words as values. -/
def wds (ws : List Nat) : List Value := ws.map fun (x : Nat) => .int .u64 (x : Int)
structure BitsAt (W : World) (b : Nat) (v : Value) (B : List Bool) (ws : List Nat) : Prop where
  hd : Blk W b #[.int .i64 B.length, v] 90
  own : W.ownsRow 0 96 1 v ws.length (wds ws)
  nn : v.ownBlock ≠ none
  len : ws.length = (B.length + 63) / 64
  lt : ∀ x ∈ ws, x < 18446744073709551616
  bits : ∀ i j, j < 64 → ((ws.getD i 0).testBit j) = B.getD (i * 64 + j) false
  lim : B.length ≤ 65536
theorem BitsAt.row {W : World} {b : Nat} {v : Value} {B : List Bool} {ws : List Nat} (h : BitsAt W b v B ws) :
    ∃ g cap, v = .slice (some ⟨g, 0, none⟩) ws.length cap ∧ ws.length ≤ cap ∧ cap ≤ maxLen ∧ g < W.heap.size ∧ (∀ i, W.frozen? ⟨g, i, none⟩ = false) ∧ ∀ i, i < ws.length → W.cell? ⟨g, i, none⟩ = some (.int .u64 (ws.getD i 0 : Nat)) := by
  rcases h.own.2 with ⟨rfl, _⟩ | ⟨g, cap, cur, rfl, _, hg, hnc, hm, _, _⟩
  · exact absurd rfl h.nn
  · refine ⟨g, cap, rfl, hnc, hm, (Array.getElem?_eq_some_iff.1 hg).1, fun i => Blk.free hg i, fun i hi => ?_⟩
    have := h.own.cells (g := g) rfl i (.int .u64 (ws.getD i 0 : Nat)) (by simp [wds, List.getD_eq_getElem?_getD, hi])
    rw [Addr.add_lit] at this
    simpa using this
theorem may_any (w : World) (b : Nat) (v : Value) (B : List Bool) (ws : List Nat) (i : Int) (h : BitsAt w b v B ws) : Calls Tryd.prog 90 #[.pointer (some ⟨b, 0, none⟩), .int .i64 i] w fun e w' => e = .returned (.bool (decide (0 ≤ i ∧ i < (B.length : Int)))) ∧ w = w' := by
  have c0 := h.hd.at 0 (v := .int .i64 B.length) rfl
  by_cases h1 : 0 ≤ i
  · by_cases h2 : i < (B.length : Int)
    · rw [decide_eq_true (And.intro h1 h2)]
      go_enter Tryd.func90, Tryd.ntmps90
      go_wp2
      go_ret
      exact ⟨rfl, rfl⟩
    · rw [decide_eq_false (by omega)]
      go_enter Tryd.func90, Tryd.ntmps90
      go_wp2
      go_ret
      exact ⟨rfl, rfl⟩
  · rw [decide_eq_false (by omega)]
    go_enter Tryd.func90, Tryd.ntmps90
    go_wp2
    go_ret
    exact ⟨rfl, rfl⟩
theorem blive_any (w : World) (b : Nat) (v : Value) (B : List Bool) (ws : List Nat) (h : BitsAt w b v B ws) : Calls Tryd.prog 75 #[.pointer (some ⟨b, 0, none⟩)] w fun e w' => e = .returned (.bool true) ∧ w = w' := by
  obtain ⟨g, cap, rfl, _⟩ := h.row
  have c1 := h.hd.at 1 (v := .slice (some ⟨g, 0, none⟩) ws.length cap) rfl
  clear h
  go_enter Tryd.func75, Tryd.ntmps75
  go_wp2
  go_ret
  exact ⟨rfl, rfl⟩
theorem q64 {i : Nat} (h : i ≤ 65536) : wrap64 ((i : Int) / 64) = ((i / 64 : Nat) : Int) := by
  rw [w64 (by omega)]; rfl
theorem r64 (i : Nat) : (i : Int) % 64 = ((i % 64 : Nat) : Int) := rfl
theorem bit_term {x r : Nat} (hx : x < 18446744073709551616) : (bits BinOp.and IntKind.u64 ((x : Int) / 2 ^ r) 1 == 1) = x.testBit r := by
  have e : (x : Int) / 2 ^ r = ((x / 2 ^ r : Nat) : Int) := by rw [Int.natCast_ediv, Int.natCast_pow]; rfl
  have hle : x / 2 ^ r ≤ x := Nat.div_le_self _ _
  rw [e, Nat.testBit_eq_decide_div_mod_eq]
  generalize x / 2 ^ r = y at *
  rw [and_one_u64 _ (by omega) (by omega), Bool.eq_iff_iff]
  simp
  omega
/-- Is a number in? -/
def hasB (B : List Bool) (i : Int) : Bool := decide (0 ≤ i) && B.getD i.toNat false
theorem has_in (w : World) (b : Nat) (v : Value) (B : List Bool) (ws : List Nat) (i : Nat) (h : BitsAt w b v B ws) (hi : i < B.length) : Calls Tryd.prog 61 #[.pointer (some ⟨b, 0, none⟩), .int .i64 (i : Nat)] w fun e w' => e = .returned (.bool (B.getD i false)) ∧ w = w' := by
  have HH := Lib.hid h
  obtain ⟨g, cap, rfl, h1, h2, h3, h4, h5⟩ := h.row
  have c1 := h.hd.at 1 (v := .slice (some ⟨g, 0, none⟩) ws.length cap) rfl
  have hk : i / 64 < ws.length := by rw [h.len]; omega
  have c2 := h5 _ hk
  have hb := h.bits (i / 64) (i % 64) (by omega)
  rw [show i / 64 * 64 + i % 64 = i by omega] at hb
  have hM := may_any w b _ B ws (i : Nat) h
  rw [decide_eq_true (And.intro (Int.natCast_nonneg i) (Int.ofNat_lt.2 hi))] at hM
  have HM := Lib.hid hM
  obtain ⟨n, hn⟩ : ∃ n, n = ws.length := ⟨_, rfl⟩
  rw [← hn] at c1 hk
  obtain ⟨q, hq⟩ : ∃ q, q = i / 64 := ⟨_, rfl⟩
  obtain ⟨r, hr⟩ : ∃ r, r = i % 64 := ⟨_, rfl⟩
  have e1 := q64 (i := i) (Nat.le_trans (Nat.le_of_lt hi) h.lim)
  have e2 := r64 i
  have hr6 : r < 64 := by rw [hr]; exact Nat.mod_lt _ (by decide)
  rw [← hq] at e1
  rw [← hr] at e2
  rw [← hq] at c2 hb hk
  rw [← hr] at hb
  obtain ⟨x, hx⟩ : ∃ x, x = ws.getD q 0 := ⟨_, rfl⟩
  rw [← hx] at c2 hb
  have g0 : (0 : Int) ≤ (q : Int) := Int.natCast_nonneg q
  have g1 : (q : Int) < (n : Int) := Int.ofNat_lt.2 hk
  have hxl : x < 18446744073709551616 := by
    rw [hx, List.getD_eq_getElem?_getD, List.getElem?_eq_getElem (by rw [← hn]; exact hk)]
    exact HH.out.lt _ (List.getElem_mem _)
  have HB := Lib.hid ((bit_term (r := r) hxl).trans hb)
  clear h h1 h2 h3 h4 h5 hb hM hn hq hr hx hk hi hxl
  go_enter Tryd.func61, Tryd.ntmps61
  go_wp2_with fail
  (with_reducible refine (HM.out).mono ?_)
  rintro e w1 ⟨rfl, rfl⟩
  go_wp2_with fail
  go_ret
  exact ⟨ret_bool HB.out, rfl⟩
theorem has_out (w : World) (b : Nat) (v : Value) (B : List Bool) (ws : List Nat) (i : Int) (h : BitsAt w b v B ws) (hi : ¬ (0 ≤ i ∧ i < (B.length : Int))) : Calls Tryd.prog 61 #[.pointer (some ⟨b, 0, none⟩), .int .i64 i] w fun e w' => e = .returned (.bool false) ∧ w = w' := by
  have hM := may_any w b _ B ws i h
  rw [decide_eq_false hi] at hM
  have HM := Lib.hid hM
  clear h hi hM
  go_enter Tryd.func61, Tryd.ntmps61
  go_wp2_with fail
  (with_reducible refine (HM.out).mono ?_)
  rintro e w1 ⟨rfl, rfl⟩
  go_wp2_with fail
  go_ret
  exact ⟨rfl, rfl⟩
theorem has_any (w : World) (b : Nat) (v : Value) (B : List Bool) (ws : List Nat) (i : Int) (h : BitsAt w b v B ws) : Calls Tryd.prog 61 #[.pointer (some ⟨b, 0, none⟩), .int .i64 i] w fun e w' => e = .returned (.bool (hasB B i)) ∧ w = w' := by
  by_cases h0 : 0 ≤ i
  · obtain ⟨k, rfl⟩ := Int.eq_ofNat_of_zero_le h0
    by_cases h1 : k < B.length
    · rw [show hasB B (k : Int) = B.getD k false by unfold hasB; rw [decide_eq_true h0]; rfl]
      exact has_in w b v B ws k h h1
    · rw [show hasB B (k : Int) = false by unfold hasB; rw [decide_eq_true h0, Int.toNat_natCast, List.getD_eq_getElem?_getD, List.getElem?_eq_none (by omega)]; rfl]
      exact has_out w b v B ws k h (by omega)
  · rw [show hasB B i = false by unfold hasB; rw [decide_eq_false h0]; rfl]
    exact has_out w b v B ws i h (by omega)
end Go.Proofs.YtgoolkgjcmdilaaDoor
